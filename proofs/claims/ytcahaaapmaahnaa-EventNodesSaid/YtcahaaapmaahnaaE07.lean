/- A value that owns several resources at once, of things that are not told. Nodes with nodes within, as they lie in memory. What is shown, as a tree, as it lies in memory. Layer 9: an empty tree; what is frozen, forgotten. Layer 33, plain: the ways to the nodes of a tree without marks; who fits one part of a selector; who is called. Texts are cut. Layer 3: lists of texts, each once. From the form's reading of plain arguments to what they are. Lists of what has a key, by rising keys: plain laws, no program in sight. -/
import Derived.Test.YtcahaaapmaahnaaE06
import Derived.Test.YtcahaaapmaahnaaE05
set_option linter.all false
namespace Go.Proofs.Ytcahaaapmaahnaa
open Go.RowKit

theorem Sep.split {w : World} : ∀ {L1 L2 : List HP} {F : Nat → Prop}, Sep (L1 ++ L2) F w → ∃ F1 F2 : Nat → Prop, (∀ b, F1 b → F b) ∧ (∀ b, F2 b → F b) ∧ (∀ b, F1 b → F2 b → False) ∧ Sep L1 F1 w ∧ Sep L2 F2 w
  | [], _, F, h => ⟨fun _ => False, F, fun _ h => h.elim, fun _ h => h, fun _ h _ => h, trivial, h⟩
  | A :: L1, L2, F, ⟨G1, G2, h1, h2, h3, h4, h5⟩ => by
    obtain ⟨F1, F2, k1, k2, k3, k4, k5⟩ := Sep.split (L1 := L1) h5
    exact ⟨fun b => G1 b ∨ F1 b, F2, fun b h => h.elim (h1 b) (fun h => h2 b (k1 b h)), fun b h => h2 b (k2 b h), fun b h1 hF => h1.elim (fun hG => h3 b hG (k2 b hF)) (fun hG => k3 b hG hF),
      ⟨G1, F1, fun b h => .inl h, fun b h => .inr h, fun b hG hF => h3 b hG (k1 b hF), h4, k4⟩, k5⟩

def bagH {α : Type} (A : α → List HP) (p : α → Prop) : HP where
  holds F w := (∀ b, F b → b < w.heap.size) ∧ ∃ x, p x ∧ Sep (A x) F w
  stable F w w' h hF := by
    obtain ⟨h1, x, hp, hs⟩ := h
    refine ⟨fun b hb => ?_, x, hp, hs.stable hF⟩
    have h2 := hF b hb
    rcases Nat.lt_or_ge b w'.heap.size with h | h
    · exact h
    · rw [Array.getElem?_eq_none h, Array.getElem?_eq_getElem (h1 b hb)] at h2; cases h2
  dom F w b h hb := h.1 b hb

theorem bagH.of {α : Type} {A : α → List HP} {p : α → Prop} {B : Bs} {w : World} {L : List HP} {x : α} (h : St B (A x ++ L) w) (hp : p x) : St B (bagH A p :: L) w := by
  obtain ⟨F, hF, hs⟩ := h.own
  obtain ⟨F1, F2, h1, h2, h3, h4, h5⟩ := hs.split
  exact ⟨h.below, h.frz, F, hF, F1, F2, h1, h2, h3, ⟨fun b hb => (hF b (h1 b hb)).2, x, hp, h4⟩, h5⟩

theorem St.bag {α : Type} {A : α → List HP} {p : α → Prop} {B : Bs} {w : World} {L L' : List HP} (h : St B L w) (hat : At (bagH A p) L L') : ∃ x, p x ∧ St B (A x ++ L') w := by
  obtain ⟨F, hF, hs⟩ := h.own
  obtain ⟨F1, F2, h1, h2, h3, ⟨_, x, hp, h4⟩, h5⟩ := hs.pull hat
  exact ⟨x, hp, h.below, h.frz, F, hF, (h4.append h5 h3).mono (fun b hb => hb.elim (h1 b) (h2 b))⟩

noncomputable def only (F : Nat → Prop) (w : World) : World :=
  { w with heap := w.heap.mapIdx fun i o => @ite _ (F i) (Classical.propDecidable _) o dead }

theorem only_in {F : Nat → Prop} {w : World} {b : Nat} (h : F b) : (only F w).heap[b]? = w.heap[b]? := by
  classical
  simp only [only, Array.getElem?_mapIdx]
  cases hw : w.heap[b]? with
  | none => rfl
  | some o => simp [h]
theorem only_live {F : Nat → Prop} {w : World} {b : Nat} (h : live (only F w) b) : F b := by
  classical
  obtain ⟨o, h1, h2⟩ := h
  simp only [only, Array.getElem?_mapIdx] at h1
  cases hw : w.heap[b]? with
  | none => rw [hw] at h1; cases h1
  | some o' =>
    rw [hw] at h1
    simp only [Option.map_some, Option.some.injEq] at h1
    by_cases hf : F b
    · exact hf
    · rw [if_neg hf] at h1; exact absurd h1.symm h2
theorem only_frz (F : Nat → Prop) (w : World) : Frz (only F w) w := fun b o h1 h2 => by
  have hf := only_live ⟨o, h1, h2⟩
  rw [only_in hf] at h1
  exact h1

def rdH (R : World → Prop) : HP where
  holds F w := (∀ b, F b → b < w.heap.size) ∧ ∃ g : World, (∀ b, live g b → F b) ∧ Frz g w ∧ R g
  stable F w w' h hF := by
    obtain ⟨h1, g, hl, hz, hr⟩ := h
    refine ⟨fun b hb => ?_, g, hl, fun b o ho hd => ?_, hr⟩
    · have h2 := hF b hb
      rcases Nat.lt_or_ge b w'.heap.size with h | h
      · exact h
      · rw [Array.getElem?_eq_none h, Array.getElem?_eq_getElem (h1 b hb)] at h2; cases h2
    · rw [hF b (hl b ⟨o, ho, hd⟩)]; exact hz b o ho hd
  dom F w b h hb := h.1 b hb

def Stays (R : World → Prop) : Prop := ∀ g w, Frz g w → R g → R w

theorem rdH.rd {R : World → Prop} (hm : Stays R) {w : World} (h : (rdH R).rd w) : R w :=
  let ⟨_, _, g, _, hz, hr⟩ := h
  hm g w hz hr

theorem Sep.all {w : World} : ∀ {L : List HP} {F : Nat → Prop}, Sep L F w → ∀ A ∈ L, ∃ F', (∀ b, F' b → F b) ∧ A.holds F' w
  | A :: L, F, ⟨F1, F2, h1, h2, _, h4, h5⟩, B, hB => by
    rcases List.mem_cons.1 hB with rfl | hB
    · exact ⟨F1, h1, h4⟩
    · obtain ⟨F', k1, k2⟩ := Sep.all h5 B hB
      exact ⟨F', fun b hb => h2 b (k1 b hb), k2⟩

theorem rdH.of {R : World → Prop} {B : Bs} {w : World} {L1 L : List HP} (h : St B (L1 ++ L) w) (hr : ∀ g, (∀ A ∈ L1, A.rd g) → R g) : St B (rdH R :: L) w := by
  obtain ⟨F, hF, hs⟩ := h.own
  obtain ⟨F1, F2, h1, h2, h3, h4, h5⟩ := hs.split
  refine ⟨h.below, h.frz, F, hF, F1, F2, h1, h2, h3, ⟨fun b hb => (hF b (h1 b hb)).2, only F1 w, fun b => only_live, only_frz F1 w, hr _ fun A hA => ?_⟩, h5⟩
  obtain ⟨F', k1, k2⟩ := h4.all A hA
  exact ⟨F', A.stable _ _ _ k2 fun b hb => only_in (k1 b hb)⟩
end Go.Proofs.Ytcahaaapmaahnaa
namespace Go.Proofs.Ytcahaaapmaahnaa
open Go.RowKit

abbrev Opt := Int × Int × Int × Int × Bool × Bool
inductive Tree where
  | mk (k : Int) (tag key text : ByteArray) (cl : List ByteArray) (at_ : List (ByteArray × ByteArray)) (st : List (ByteArray × Int)) (o : Opt) (kids : List Tree)

abbrev NdH := Int × ByteArray × ByteArray × ByteArray × Hd × Hd × Hd × Opt × Hd
abbrev ndV (h : NdH) : Value := .agg (Enc.f h).toArray

inductive TrR (w : World) : Tree → NdH → Prop
  | mk {k : Int} {tag key text : ByteArray} {cl : List ByteArray} {at_ : List (ByteArray × ByteArray)} {st : List (ByteArray × Int)} {o : Opt} {kids : List Tree} {hc ha hs hk : Hd} {H : List NdH}
    (h1 : SlT cl hc.v w) (h2 : SlT at_ ha.v w) (h3 : SlT st hs.v w) (h4 : SlT H hk.v w) (hl : H.length = kids.length)
    (hr : ∀ (i : Nat) (t : Tree) (h : NdH), kids[i]? = some t → H[i]? = some h → TrR w t h) : TrR w (.mk k tag key text cl at_ st o kids) (k, tag, key, text, hc, ha, hs, o, hk)

def FoR (w : World) (ts : List Tree) (H : List NdH) : Prop := H.length = ts.length ∧ ∀ (i : Nat) (t : Tree) (h : NdH), ts[i]? = some t → H[i]? = some h → TrR w t h
def appH {α : Type} [Enc α] (E : TypeId) (ys : List α) : Value → HP := match ys with
  | [] => emp0
  | y :: r => OwT E (y :: r)
section
variable {df : List Deferred} {P : Program} {a : Act} {w : World} {n : Nat} {l : List (Nat × Value)} {dst : Option Nat} {ty : TypeId} {pos : String} {af : Array Edge} {g : Option (Nat × Bool)} {α : Type} [Enc α]
end

abbrev treeR (t : Tree) (h : NdH) : HP := rdH (fun w => TrR w t h)
abbrev forR (ts : List Tree) (H : List NdH) : HP := rdH (fun w => FoR w ts H)
def treeH (t : Tree) (v : Value) : HP := bagH (fun h : NdH => [treeR t h]) (fun h => v = ndV h)

section
variable {B : Bs} {w : World} {L L' : List HP}
abbrev forR2 (ts us : List Tree) (H K : List NdH) : HP := rdH (fun w => FoR w ts H ∧ FoR w us K)
end

instance : Inhabited Hd := ⟨⟨none, 0, 0⟩⟩
open Classical in
noncomputable def ndOf (v : Value) : NdH := if h : ∃ x, v = ndV x then Classical.choose h else default
theorem hdv_inj {a b : Hd} (h : a.v = b.v) : a = b := by
  cases a; cases b
  simp only [Hd.v, Value.slice.injEq] at h
  obtain ⟨rfl, rfl, rfl⟩ := h
  rfl
theorem SlT.hd {α : Type} [Enc α] {xs : List α} {h : Hd} {w : World} (hs : SlT xs h.v w) : ∃ a m, h = ⟨a, xs.length, m⟩ := by
  obtain ⟨a, m, e, _⟩ := hs.shape
  exact ⟨a, m, hdv_inj e⟩
def Tree.kids : Tree → List Tree
  | .mk _ _ _ _ _ _ _ _ ks => ks
inductive Fits : Tree → Prop
  | mk {k : Int} {tag key text : ByteArray} {cl : List ByteArray} {at_ : List (ByteArray × ByteArray)} {st : List (ByteArray × Int)} {o : Opt} {kids : List Tree}
    (h1 : cl.length ≤ 100) (h2 : at_.length ≤ 100) (h3 : st.length ≤ 100) (h4 : kids.length ≤ 1000) (h5 : ∀ t ∈ kids, Fits t) : Fits (.mk k tag key text cl at_ st o kids)
end Go.Proofs.Ytcahaaapmaahnaa
namespace Go.Proofs.Ytcahaaapmaahnaa
open Go.RowKit

inductive STree where
  | mk (id k : Int) (tag text : ByteArray) (cl : List ByteArray) (at_ : List (ByteArray × ByteArray)) (st : List (ByteArray × Int)) (kids : List STree)

abbrev SnH := Int × Int × ByteArray × ByteArray × Hd × Hd × Hd × Hd
abbrev snV (h : SnH) : Value := .agg (Enc.f h).toArray

inductive SrR (w : World) : STree → SnH → Prop
  | mk {id k : Int} {tag text : ByteArray} {cl : List ByteArray} {at_ : List (ByteArray × ByteArray)} {st : List (ByteArray × Int)} {kids : List STree} {hc ha hs hk : Hd} {H : List SnH}
    (h1 : SlT cl hc.v w) (h2 : SlT at_ ha.v w) (h3 : SlT st hs.v w) (h4 : SlT H hk.v w) (hl : H.length = kids.length)
    (hr : ∀ (i : Nat) (t : STree) (h : SnH), kids[i]? = some t → H[i]? = some h → SrR w t h) : SrR w (.mk id k tag text cl at_ st kids) (id, k, tag, text, hc, ha, hs, hk)

theorem SrR.frz {w w' : World} {t : STree} {h : SnH} (hr : SrR w t h) (hf : Frz w w') : SrR w' t h := by
  induction hr with
  | mk h1 h2 h3 h4 hl _ ih => exact .mk (h1.frz hf) (h2.frz hf) (h3.frz hf) (h4.frz hf) hl ih
def SoR (w : World) (ts : List STree) (H : List SnH) : Prop := H.length = ts.length ∧ ∀ (i : Nat) (t : STree) (h : SnH), ts[i]? = some t → H[i]? = some h → SrR w t h
abbrev streeR (t : STree) (h : SnH) : HP := rdH (fun w => SrR w t h)
abbrev sforR (ts : List STree) (H : List SnH) : HP := rdH (fun w => SoR w ts H)
def streeH (t : STree) (v : Value) : HP := bagH (fun h : SnH => [streeR t h]) (fun h => v = snV h)

section
variable {B : Bs} {w : World} {L L' : List HP}
abbrev sforR2 (ts us : List STree) (H K : List SnH) : HP := rdH (fun w => SoR w ts H ∧ SoR w us K)
end

open Classical in
noncomputable def snOf (v : Value) : SnH := if h : ∃ x, v = snV x then Classical.choose h else default
theorem SrR.split {w : World} {t : STree} {h : SnH} (hr : SrR w t h) : ∃ id k tag text cl al sl kids a1 m1 a2 m2 a3 m3 a4 m4, ∃ H : List SnH, t = .mk id k tag text cl al sl kids ∧
    h = (id, k, tag, text, ⟨a1, cl.length, m1⟩, ⟨a2, al.length, m2⟩, ⟨a3, sl.length, m3⟩, ⟨a4, H.length, m4⟩) ∧
    SlT cl (.slice a1 cl.length m1) w ∧ SlT al (.slice a2 al.length m2) w ∧ SlT sl (.slice a3 sl.length m3) w ∧ SlT H (.slice a4 H.length m4) w ∧ SoR w kids H := by
  obtain ⟨c1, c2, c3, c4, hl, hkr⟩ := hr
  rename_i id k tag text cl al sl kids hc ha hs hk0 H
  obtain ⟨a1, m1, rfl⟩ := c1.hd
  obtain ⟨a2, m2, rfl⟩ := c2.hd
  obtain ⟨a3, m3, rfl⟩ := c3.hd
  obtain ⟨a4, m4, rfl⟩ := c4.hd
  exact ⟨id, k, tag, text, cl, al, sl, kids, a1, m1, a2, m2, a3, m3, a4, m4, H, rfl, rfl, c1, c2, c3, c4, hl, hkr⟩
def STree.kids : STree → List STree
  | .mk _ _ _ _ _ _ _ ks => ks
theorem skid_lt {id k : Int} {tag text : ByteArray} {cl : List ByteArray} {at_ : List (ByteArray × ByteArray)} {st : List (ByteArray × Int)} {kids : List STree} {t : STree} (h : t ∈ kids) : SizeOf.sizeOf t < SizeOf.sizeOf (STree.mk id k tag text cl at_ st kids) := by
  have := List.sizeOf_lt_of_mem h
  simp only [STree.mk.sizeOf_spec]
  omega
inductive SFits : STree → Prop
  | mk {id k : Int} {tag text : ByteArray} {cl : List ByteArray} {at_ : List (ByteArray × ByteArray)} {st : List (ByteArray × Int)} {kids : List STree}
    (h1 : cl.length ≤ 100) (h2 : at_.length ≤ 100) (h3 : st.length ≤ 100) (h4 : kids.length ≤ 1000) (h5 : ∀ t ∈ kids, SFits t) : SFits (.mk id k tag text cl at_ st kids)
end Go.Proofs.Ytcahaaapmaahnaa
namespace Go.Proofs.Ytcahaaapmaahnaa
open Go.RowKit
set_option maxRecDepth 100000
attribute [local irreducible] Go.Code.wpIn Go.wpListIn Go.Calls Gives Go.Exit.then Go.Exit.inBlock Done ObxE

abbrev zSn : SnH := (0, 0, ⟨#[]⟩, ⟨#[]⟩, ⟨none, 0, 0⟩, ⟨none, 0, 0⟩, ⟨none, 0, 0⟩, ⟨none, 0, 0⟩)
theorem St.flat {g w0 w : World} {L : List HP} (h : St ⟨g, w0⟩ L w) : St w0 [] w := ⟨h.below, Frz.of_below h.below, fun _ => False, fun _ h => h.elim, trivial⟩
end Go.Proofs.Ytcahaaapmaahnaa
namespace Go.Proofs.Ytcahaaapmaahnaa
open Go.RowKit

inductive PlT : STree → Prop
  | mk {id k : Int} {tag text : ByteArray} {sl : List (ByteArray × Int)} {kids : List STree} (h1 : kids.length ≤ 1000) (h2 : sl.length ≤ 100) (h : ∀ t ∈ kids, PlT t) : PlT (.mk id k tag text [] [] sl kids)
def STree.id : STree → Int
  | .mk id _ _ _ _ _ _ _ => id
mutual
def hrT (way : List Int) : STree → List (STree × List Int)
  | .mk id k tag text cl al sl kids => (.mk id k tag text cl al sl kids, way ++ [id]) :: hrL (way ++ [id]) kids
def hrL (way : List Int) : List STree → List (STree × List Int)
  | [] => []
  | t :: ts => hrT way t ++ hrL way ts
end
theorem hrL_app (way : List Int) : ∀ (a b : List STree), hrL way (a ++ b) = hrL way a ++ hrL way b
  | [], b => by simp [hrL]
  | t :: a, b => by rw [List.cons_append, hrL, hrL, hrL_app way a b, List.append_assoc]
theorem hrL_snoc (way : List Int) (a : List STree) (t : STree) : hrL way (a ++ [t]) = hrL way a ++ hrT way t := by rw [hrL_app, hrL, hrL, List.append_nil]
def runQ {σ τ : Type} (p : σ → τ → Bool × σ) : σ → List τ → Bool × σ
  | s, [] => (true, s)
  | s, x :: r => if (p s x).1 = true then runQ p (p s x).2 r else (false, (p s x).2)
theorem runQ_app {σ τ : Type} (p : σ → τ → Bool × σ) : ∀ (a b : List τ) (s : σ), runQ p s (a ++ b) = if (runQ p s a).1 = true then runQ p (runQ p s a).2 b else (false, (runQ p s a).2)
  | [], b, s => by simp [runQ]
  | x :: a, b, s => by
    rw [List.cons_append, runQ, runQ]
    by_cases h : (p s x).1 = true
    · rw [if_pos h, if_pos h, runQ_app p a b]
    · rw [if_neg h, if_neg h, if_neg (by simp)]
mutual
def fitT (pt : ByteArray) : STree → List Int
  | .mk id k tag _ _ _ _ kids => (if k = 2 ∧ (pt = ⟨#[]⟩ ∨ pt = ⟨#[42]⟩ ∨ pt = tag) then [id] else []) ++ fitL pt kids
def fitL (pt : ByteArray) : List STree → List Int
  | [] => []
  | t :: ts => fitT pt t ++ fitL pt ts
end
theorem fitL_app (pt : ByteArray) : ∀ (a b : List STree), fitL pt (a ++ b) = fitL pt a ++ fitL pt b
  | [], b => by simp [fitL]
  | t :: a, b => by rw [List.cons_append, fitL, fitL, fitL_app pt a b, List.append_assoc]
theorem fitL_snoc (pt : ByteArray) (a : List STree) (t : STree) : fitL pt (a ++ [t]) = fitL pt a ++ fitT pt t := by rw [fitL_app, fitL, fitL, List.append_nil]
theorem wp_joinE {df : Option Nat} {n : Nat} {P : Program} {c : Code} {K : Act → World → Prop} {Q : Exit → Act → World → Prop} {a : Act} {w : World} (R' : Act → World → Prop) (h2 : ∀ a w, R' a w → K a w) (h1 : c.wpIn (FR df) n P (Exit.then R' Q) a w) : c.wpIn (FR df) n P (Exit.then K Q) a w :=
  wpIn_mono h1 (fun e a w h => by cases e <;> first | exact h2 _ _ h | exact h)
def nodesF (l : List (Int × Int)) : List Int := l.foldl (fun out c => if c.2 ∈ out then out else out ++ [c.2]) []
theorem nodes_snoc (l : List (Int × Int)) (c : Int × Int) : nodesF (l ++ [c]) = if c.2 ∈ nodesF l then nodesF l else nodesF l ++ [c.2] := by unfold nodesF; rw [List.foldl_append]; rfl
theorem nodes_len (l : List (Int × Int)) : (nodesF l).length ≤ l.length := by
  have : ∀ r : List (Int × Int), (nodesF r.reverse).length ≤ r.length := by
    intro r
    induction r with
    | nil => simp [nodesF]
    | cons c r ih =>
      rw [List.reverse_cons, nodes_snoc, List.length_cons]
      split
      · omega
      · rw [List.length_append]; simp; omega
  have h := this l.reverse
  simpa using h
end Go.Proofs.Ytcahaaapmaahnaa
namespace Go.Proofs.Ytcahaaapmaahnaa
open Go.RowKit
set_option maxRecDepth 100000
attribute [local irreducible] Go.Code.wpIn Go.wpListIn Go.Calls Gives Go.Exit.then Go.Exit.inBlock Done ObxE

def cutF (s : ByteArray) (n : Nat) : ByteArray := if n < s.size then s.extract 0 n else s

end Go.Proofs.Ytcahaaapmaahnaa
namespace Go.Proofs.Ytcahaaapmaahnaa
open Go.RowKit
set_option maxRecDepth 100000
attribute [local irreducible] Go.Code.wpIn Go.wpListIn Go.Calls Gives Go.Exit.then Go.Exit.inBlock Done ObxE

theorem take_snocC {α : Type} {l : List α} {i : Nat} {x : α} (h : l[i]? = some x) : l.take (i + 1) = l.take i ++ [x] := by rw [List.take_add_one, h]; rfl
theorem idxS_any (l : List ByteArray) (c : ByteArray) (v : Value) (w0 : World) (hv : SlT l v w0) (hl : l.length ≤ 100000) :
    Calls Try.prog 53 #[v, .string c] w0 (Ret fun v w => (∃ p : Int, v = .int .i64 p ∧ (0 ≤ p ↔ c ∈ l) ∧ -1 ≤ p) ∧ St w0 [] w) := by
  refine enter Try.func53 rfl Try.ntmps53 rfl (fun a hk => ?_); have hS := St.refl w0
  (repeat' (first | (show wpListIn _ _ _ _ _ (_ :: _) _ _; first | (refine wx1 ?_; clear hk a; intro a hk) | (refine wx2 ?_ ?_ <;> (intro hp; clear hk a; intro a hk)) | (refine wx3 ?_; clear hk hS a; intro w b hS a hk) | (refine wx4 ?_; clear hk hS a; intro w hS a hk) | (refine wx5 ?_; clear hk hS a; intro w v hS a hk) | fail) | refine wx0 ?_ | (refine s_end hk ?_; clear hk a; intro a hk) | fail))
  replace hk := Kn.kp [0, 1, 7, 8] hk
  refine wp_for l.length (fun i _ => [(8, .int .i64 (i : Int))]) (fun _ _ => []) (fun i _ => c ∉ l.take i) () hk (by repeat (first | exact trivial | refine ⟨rfl, ?_⟩)) hS.sb (by simp) ?_
  clear hk hS a
  rintro i - a w hi hk hS hF
  have hv1 := hS.rdT hv
  by_cases hil : i < l.length
  · obtain ⟨x, hx⟩ : ∃ x, l[i]? = some x := ⟨_, List.getElem?_eq_getElem hil⟩
    (repeat' (first | (show wpListIn _ _ _ _ _ (_ :: _) _ _; first | (refine wx1 ?_; clear hk a; intro a hk) | (refine wx2 ?_ ?_ <;> (intro hp; clear hk a; intro a hk)) | (refine wx3 ?_; clear hk hS a; intro w b hS a hk) | (refine wx4 ?_; clear hk hS a; intro w hS a hk) | (refine wx5 ?_; clear hk hS a; intro w v hS a hk) | fail) | refine wx0 ?_ | (refine s_end hk ?_; clear hk a; intro a hk) | fail))
    · have e : c = x := by assumption
      exact done1 hk (h := ⟨⟨_, rfl, ⟨fun _ => by rw [e]; exact List.mem_of_getElem? hx, fun _ => by omega⟩, by omega⟩, hS.nil⟩)
    · have e : ¬ c = x := by assumption
      exact ⟨hil, (), hk.sd, hS.sb, by rw [take_snocC hx, List.mem_append, List.mem_singleton]; rintro (h | h); exact hF h; exact e h⟩
  · have : i = l.length := by omega
    subst this
    rw [List.take_length] at hF
    (repeat' (first | (show wpListIn _ _ _ _ _ (_ :: _) _ _; first | (refine wx1 ?_; clear hk a; intro a hk) | (refine wx2 ?_ ?_ <;> (intro hp; clear hk a; intro a hk)) | (refine wx3 ?_; clear hk hS a; intro w b hS a hk) | (refine wx4 ?_; clear hk hS a; intro w hS a hk) | (refine wx5 ?_; clear hk hS a; intro w v hS a hk) | fail) | refine wx0 ?_ | (refine s_end hk ?_; clear hk a; intro a hk) | fail))
    exact done1 hk (h := ⟨⟨-1, rfl, ⟨fun h => by omega, fun h => absurd h hF⟩, by omega⟩, hS.nil⟩)
open Classical in
theorem hasC_any (l : List ByteArray) (c : ByteArray) (v : Value) (w0 : World) (hv : SlT l v w0) (hl : l.length ≤ 100000) :
    Calls Try.prog 32 #[v, .string c] w0 (Ret fun v w => v = .bool (decide (c ∈ l)) ∧ St w0 [] w) := by
  have con : ∀ w0, SlT l v w0 → Calls Try.prog 44 #[v, .string c] w0 (Ret fun v w => v = .bool (decide (c ∈ l)) ∧ St w0 [] w) := by
    intro w0 hv
    refine enter Try.func44 rfl Try.ntmps44 rfl (fun a hk => ?_); have hS := St.refl w0
    (repeat' (first | (show wpListIn _ _ _ _ _ (_ :: _) _ _; first | (refine wx1 ?_; clear hk a; intro a hk) | (refine wx2 ?_ ?_ <;> (intro hp; clear hk a; intro a hk)) | (refine wx3 ?_; clear hk hS a; intro w b hS a hk) | (refine wx4 ?_; clear hk hS a; intro w hS a hk) | (refine wx5 ?_; clear hk hS a; intro w v hS a hk) | fail) | refine wx0 ?_ | (refine s_end hk ?_; clear hk a; intro a hk) | fail))
    refine sg hk (g_callO hk (hf := by kernel_rfl) (hc := idxS_any l c v _ (hS.rdT hv) hl) (h := ?_)); clear hk a; rintro vr w ⟨⟨p, rfl, hp, hp1⟩, hS1⟩ a hk; replace hS := hS.call hS1; clear hS1
    by_cases hin : c ∈ l
    · have := hp.2 hin
      (repeat' (first | (show wpListIn _ _ _ _ _ (_ :: _) _ _; first | (refine wx1 ?_; clear hk a; intro a hk) | (refine wx2 ?_ ?_ <;> (intro hp; clear hk a; intro a hk)) | (refine wx3 ?_; clear hk hS a; intro w b hS a hk) | (refine wx4 ?_; clear hk hS a; intro w hS a hk) | (refine wx5 ?_; clear hk hS a; intro w v hS a hk) | fail) | refine wx0 ?_ | (refine s_end hk ?_; clear hk a; intro a hk) | fail))
      exact done1 hk (h := ⟨by rw [decide_eq_true hin], hS.nil⟩)
    · have : ¬ 0 ≤ p := fun h => hin (hp.1 h)
      (repeat' (first | (show wpListIn _ _ _ _ _ (_ :: _) _ _; first | (refine wx1 ?_; clear hk a; intro a hk) | (refine wx2 ?_ ?_ <;> (intro hp; clear hk a; intro a hk)) | (refine wx3 ?_; clear hk hS a; intro w b hS a hk) | (refine wx4 ?_; clear hk hS a; intro w hS a hk) | (refine wx5 ?_; clear hk hS a; intro w v hS a hk) | fail) | refine wx0 ?_ | (refine s_end hk ?_; clear hk a; intro a hk) | fail))
      exact done1 hk (h := ⟨by rw [decide_eq_false hin], hS.nil⟩)
  refine enter Try.func32 rfl Try.ntmps32 rfl (fun a hk => ?_); have hS := St.refl w0
  (repeat' (first | (show wpListIn _ _ _ _ _ (_ :: _) _ _; first | (refine wx1 ?_; clear hk a; intro a hk) | (refine wx2 ?_ ?_ <;> (intro hp; clear hk a; intro a hk)) | (refine wx3 ?_; clear hk hS a; intro w b hS a hk) | (refine wx4 ?_; clear hk hS a; intro w hS a hk) | (refine wx5 ?_; clear hk hS a; intro w v hS a hk) | fail) | refine wx0 ?_ | (refine s_end hk ?_; clear hk a; intro a hk) | fail))
  refine sg hk (g_callO hk (hf := by kernel_rfl) (hc := con _ (hS.rdT hv)) (h := ?_)); clear hk a; rintro _ w ⟨rfl, hS1⟩ a hk; replace hS := hS.call0 hS1; clear hS1
  (repeat' (first | (show wpListIn _ _ _ _ _ (_ :: _) _ _; first | (refine wx1 ?_; clear hk a; intro a hk) | (refine wx2 ?_ ?_ <;> (intro hp; clear hk a; intro a hk)) | (refine wx3 ?_; clear hk hS a; intro w b hS a hk) | (refine wx4 ?_; clear hk hS a; intro w hS a hk) | (refine wx5 ?_; clear hk hS a; intro w v hS a hk) | fail) | refine wx0 ?_ | (refine s_end hk ?_; clear hk a; intro a hk) | fail))
  exact done1 hk (h := ⟨rfl, hS.nil⟩)
open Classical in
noncomputable def addC (l : List ByteArray) (c : ByteArray) : List ByteArray := if c ∈ l then l else l ++ [c]
noncomputable def clnC (l : List ByteArray) : List ByteArray := l.foldl addC []
end Go.Proofs.Ytcahaaapmaahnaa
namespace Go.Proofs.Ytcahaaapmaahnaa
open Go.RowKit

theorem shp_fold {P : Program} {d : Nat} {cs : List Value} : ∀ (fs : List Field) (off : Nat) (ks : List SK) (off' : Nat) (ks' : List SK), fs.foldl (stepF P (flatT P d)) (some (off, ks)) = some (off', ks') → off = ks.length →
    (∀ f ∈ fs, ∀ k1, flatT P d f.type = some k1 → szOf P f.type = some k1.length → shp k1 ((cs.drop f.offset).take k1.length) = true) → shp ks (cs.take off) = true → shp ks' (cs.take off') = true ∧ off' = ks'.length
  | [], off, ks, off', ks', h, ho, _, h1 => by
    simp at h
    obtain ⟨rfl, rfl⟩ := h
    exact ⟨h1, ho⟩
  | f :: fs, off, ks, off', ks', h, ho, hf, h1 => by
    simp only [List.foldl_cons] at h
    cases hs : stepF P (flatT P d) (some (off, ks)) f with
    | none => rw [hs, stepF_none] at h; cases h
    | some p =>
      obtain ⟨o2, k2⟩ := p
      rw [hs] at h
      unfold stepF at hs
      cases hfl : flatT P d f.type with
      | none => rw [hfl] at hs; simp at hs
      | some k1 =>
        rw [hfl] at hs
        simp only at hs
        cases hz : szOf P f.type with
        | none => rw [hz] at hs; simp at hs
        | some s =>
          rw [hz] at hs
          simp only at hs
          rw [Bool.cond_eq_ite] at hs
          split at hs
          · rename_i hc
            simp only [Option.some.injEq, Prod.mk.injEq] at hs
            obtain ⟨e1, e2⟩ := hs
            simp only [Bool.and_eq_true] at hc
            obtain ⟨⟨⟨⟨_, c2⟩, c3⟩, _⟩, _⟩ := hc
            have hoff : f.offset = off := Nat.eq_of_beq_eq_true c2
            have hsz : szOf P f.type = some k1.length := by rw [hz, Nat.eq_of_beq_eq_true c3]
            subst e1 e2
            refine shp_fold fs (off + k1.length) (ks ++ k1) off' ks' h (by rw [List.length_append, ho]) (fun g hg => hf g (by simp [hg])) ?_
            have h2 := hf f (by simp) k1 hfl hsz
            rw [hoff] at h2
            rw [List.take_add]
            exact shp_join h1 h2
          · cases hs

theorem shp_rdg {P : Program} {W : World} : ∀ (d D : Nat) (T : TypeId) (ks : List SK) (us : List Value), flatT P d T = some ks → szOf P T = some ks.length → d ≤ D → Rdg P W D T us → shp ks us = true
  | 0, _, _, _, _, h, _, _, _ => by simp [flatT] at h
  | d + 1, 0, _, _, _, _, _, h, _ => by omega
  | d + 1, D + 1, T, ks, us, h, hz, hd, hr => by
    unfold flatT at h
    unfold Rdg at hr
    cases hu : P.underlying T with
    | none => rw [hu] at h; cases h
    | some dsc =>
      rw [hu] at h hr
      cases dsc <;> simp only [reduceCtorEq] at h
      case bool =>
        obtain ⟨b, rfl⟩ := hr
        injection h with h; subst h; rfl
      case int k =>
        obtain ⟨n, rfl, _⟩ := hr
        injection h with h; subst h; simp [shp]
      case string =>
        obtain ⟨s, rfl, _⟩ := hr
        injection h with h; subst h; rfl
      case struct fs =>
        cases hst : P.stoodInHeld T with
        | true => rw [hst] at h; simp at h
        | false =>
          rw [hst] at h
          simp only [cond_false, Option.map_eq_some_iff] at h
          obtain ⟨⟨off', ks'⟩, h1, rfl⟩ := h
          obtain ⟨h2, h3⟩ := shp_fold (cs := us) fs.toList 0 [] off' ks' h1 rfl (fun f hf k1 hk hs => by
            have := hr.2 f hf
            rw [cellsOf_sz hs] at this
            exact shp_rdg d D f.type k1 _ hk hs (by omega) this) (by simp [shp])
          have hl := hr.1
          rw [cellsOf_sz hz] at hl
          rw [List.take_of_length_le (by simp only at hl; omega)] at h2
          exact h2

section
variable {α : Type} [Enc α] [EncI α] {P : Program} {W : World}
theorem SlT.of_rdgF {D : Nat} {T e : TypeId} {cs : List Value} (h : Rdg P W (D + 1) T cs) (hT : elOf P T = some e) (hz : szOf P e = some (Enc.k α + 1)) (hf : flatT P 6 e = some (EncI.ks α)) (hD : 6 ≤ D) :
    ∃ v, ∃ xs : List α, cs = [v] ∧ SlT xs v W := by
  obtain ⟨v, xs, h1, h2, _⟩ := SlT.of_rdg (α := α) (fun _ => True) h hT hz (fun us hl hr => by
    have := shp_rdg 6 D e (EncI.ks α) us hf (by rw [hz, EncI.kl]) hD hr
    obtain ⟨x, hx⟩ := EncI.sur us this
    exact ⟨x, hx, trivial⟩)
  exact ⟨v, xs, h1, h2⟩
theorem Arg.sl {T e : TypeId} {v : Value} (h : Arg P W T v) (hT : elOf P T = some e) (ha : aggOf P T = some false) (hz : szOf P e = some (Enc.k α + 1)) (hf : flatT P 6 e = some (EncI.ks α)) : ∃ xs : List α, SlT xs v W := by
  obtain ⟨u, xs, h1, h2⟩ := SlT.of_rdgF h.1 hT hz hf (by decide)
  rw [h.2.2 ha] at h1
  simp at h1
  subst h1
  exact ⟨xs, h2⟩
end
end Go.Proofs.Ytcahaaapmaahnaa
namespace Go.Proofs.Ytcahaaapmaahnaa

section
variable {α κ : Type} [Lin κ] (key : α → κ)

theorem Lin.asym {a b : κ} (h : Lin.lt a b = true) : Lin.lt b a = false := by
  cases h2 : Lin.lt b a with
  | false => rfl
  | true => have := Lin.tr h h2; rw [Lin.irr] at this; cases this
theorem Lin.ne {a b : κ} (h : Lin.lt a b = true) : a ≠ b := fun e => by subst e; rw [Lin.irr] at h; cases h
theorem Lin.gt {a b : κ} (h : Lin.lt a b = false) (hn : a ≠ b) : Lin.lt b a = true := by
  cases h2 : Lin.lt b a with
  | true => rfl
  | false => exact absurd (Lin.tri h h2) hn
def cmpF (a b : κ) : Int := if Lin.lt a b = true then -1 else if Lin.lt b a = true then 1 else 0
theorem cmp_lt {a b : κ} (h : Lin.lt a b = true) : cmpF a b = -1 := if_pos h
theorem cmp_ge {a b : κ} (h : Lin.lt a b = false) : ¬ cmpF a b < 0 := by
  unfold cmpF
  rw [if_neg (by rw [h]; decide)]
  split <;> decide
theorem cmp_eq {a b : κ} : cmpF a b = 0 ↔ a = b := by
  unfold cmpF
  constructor
  · intro h
    split at h
    · cases h
    · split at h
      · cases h
      · exact Lin.tri (by simpa using ‹¬ Lin.lt a b = true›) (by simpa using ‹¬ Lin.lt b a = true›)
  · intro h
    subst h
    rw [if_neg (by rw [Lin.irr]; decide), if_neg (by rw [Lin.irr]; decide)]

def putF : List α → α → List α
  | [], e => [e]
  | x :: r, e => if Lin.lt (key e) (key x) = true then e :: x :: r else if key e = key x then e :: r else x :: putF r e
def snapF (l : List α) : List α := l.foldl (putF key) []
def lastF (l : List α) (k : κ) : Option α := l.reverse.find? (fun e => decide (key e = k))
def Rises (s : List α) : Prop := s.Pairwise (fun x y => Lin.lt (key x) (key y) = true)

theorem snap_snoc (l : List α) (e : α) : snapF key (l ++ [e]) = putF key (snapF key l) e := by simp [snapF]
theorem last_snoc (l : List α) (e : α) (k : κ) : lastF key (l ++ [e]) k = if key e = k then some e else lastF key l k := by
  simp only [lastF, List.reverse_append, List.reverse_cons, List.reverse_nil, List.nil_append, List.cons_append, List.find?_cons]
  by_cases h : key e = k <;> simp [h]
theorem last_key {l : List α} {k : κ} {e : α} (h : lastF key l k = some e) : key e = k := by
  have := List.find?_some h
  simpa using this
theorem last_mem {l : List α} {k : κ} {e : α} (h : lastF key l k = some e) : e ∈ l := by
  have := List.mem_of_find?_eq_some h
  simpa using this
theorem last_of_mem {l : List α} {e : α} (h : e ∈ l) : ∃ x, lastF key l (key e) = some x := by
  have : ((l.reverse.find? (fun x => decide (key x = key e))).isSome) = true := by
    rw [List.find?_isSome]
    exact ⟨e, by simpa using h, by simp⟩
  exact Option.isSome_iff_exists.1 this

theorem put_mem : ∀ {s : List α} {e x : α}, Rises key s → (x ∈ putF key s e ↔ x = e ∨ (x ∈ s ∧ key x ≠ key e))
  | [], e, x, _ => by simp [putF]
  | y :: r, e, x, h => by
    have h1 := (List.pairwise_cons.1 h).1
    have h2 := (List.pairwise_cons.1 h).2
    unfold putF
    by_cases hlt : Lin.lt (key e) (key y) = true
    · rw [if_pos hlt]
      have hy : key y ≠ key e := fun h => Lin.ne hlt h.symm
      have hr : ∀ z ∈ r, key z ≠ key e := fun z hz h => Lin.ne (Lin.tr hlt (h1 z hz)) h.symm
      simp only [List.mem_cons]
      constructor
      · rintro (h | h | h)
        · exact .inl h
        · exact .inr ⟨.inl h, by rw [h]; exact hy⟩
        · exact .inr ⟨.inr h, hr x h⟩
      · rintro (h | ⟨h | h, _⟩)
        · exact .inl h
        · exact .inr (.inl h)
        · exact .inr (.inr h)
    · rw [if_neg hlt]
      have hf : Lin.lt (key e) (key y) = false := by simpa using hlt
      by_cases he : key e = key y
      · rw [if_pos he]
        have hr : ∀ z ∈ r, key z ≠ key e := fun z hz h => Lin.ne (h1 z hz) (by rw [h, he])
        simp only [List.mem_cons]
        constructor
        · rintro (h | h)
          · exact .inl h
          · exact .inr ⟨.inr h, hr x h⟩
        · rintro (h | ⟨h | h, hn⟩)
          · exact .inl h
          · exact absurd (by rw [h, he]) hn
          · exact .inr h
      · rw [if_neg he]
        have ih := put_mem (e := e) (x := x) h2
        have hy : key y ≠ key e := fun h => he h.symm
        simp only [List.mem_cons, ih]
        constructor
        · rintro (h | h | ⟨h, hn⟩)
          · exact .inr ⟨.inl h, by rw [h]; exact hy⟩
          · exact .inl h
          · exact .inr ⟨.inr h, hn⟩
        · rintro (h | ⟨h | h, hn⟩)
          · exact .inr (.inl h)
          · exact .inl h
          · exact .inr (.inr ⟨h, hn⟩)

theorem put_rises : ∀ {s : List α} {e : α}, Rises key s → Rises key (putF key s e)
  | [], e, _ => by simp [putF, Rises]
  | y :: r, e, h => by
    have h1 := (List.pairwise_cons.1 h).1
    have h2 := (List.pairwise_cons.1 h).2
    unfold putF
    by_cases hlt : Lin.lt (key e) (key y) = true
    · rw [if_pos hlt]
      exact List.pairwise_cons.2 ⟨fun z hz => by
        rcases List.mem_cons.1 hz with h | h
        · rw [h]; exact hlt
        · exact Lin.tr hlt (h1 z h), h⟩
    · rw [if_neg hlt]
      have hf : Lin.lt (key e) (key y) = false := by simpa using hlt
      by_cases he : key e = key y
      · rw [if_pos he]
        exact List.pairwise_cons.2 ⟨fun z hz => by rw [he]; exact h1 z hz, h2⟩
      · rw [if_neg he]
        refine List.pairwise_cons.2 ⟨fun z hz => ?_, put_rises h2⟩
        rcases (put_mem key h2).1 hz with h | ⟨h, _⟩
        · rw [h]; exact Lin.gt hf he
        · exact h1 z h

theorem snap_rises (l : List α) : Rises key (snapF key l) := by
  have : ∀ (l s : List α), Rises key s → Rises key (l.foldl (putF key) s) := by
    intro l
    induction l with
    | nil => exact fun _ h => h
    | cons x l ih => exact fun s h => ih _ (put_rises key h)
  exact this l [] List.Pairwise.nil

theorem snap_last {l : List α} : ∀ {x : α}, x ∈ snapF key l ↔ lastF key l (key x) = some x := by
  have : ∀ (r : List α) (x : α), x ∈ snapF key r.reverse ↔ lastF key r.reverse (key x) = some x := by
    intro r
    induction r with
    | nil => intro x; simp [snapF, lastF]
    | cons e r ih =>
      intro x
      rw [List.reverse_cons, snap_snoc, last_snoc, put_mem key (snap_rises key _)]
      by_cases h : key e = key x
      · rw [if_pos h]
        constructor
        · rintro (h1 | ⟨_, h2⟩)
          · rw [h1]
          · exact absurd h.symm h2
        · intro h1; injection h1 with h1; exact .inl h1.symm
      · rw [if_neg h, ← ih]
        constructor
        · rintro (h1 | ⟨h1, _⟩)
          · exact absurd (by rw [h1]) h
          · exact h1
        · exact fun h1 => .inr ⟨h1, fun h2 => h h2.symm⟩
  have h := this l.reverse
  simpa using h

theorem rises_key {s : List α} (h : Rises key s) {x y : α} (hx : x ∈ s) (hy : y ∈ s) (e : key x = key y) : x = y := by
  induction s with
  | nil => cases hx
  | cons z r ih =>
    have h1 := (List.pairwise_cons.1 h).1
    rcases List.mem_cons.1 hx with hx | hx <;> rcases List.mem_cons.1 hy with hy | hy
    · rw [hx, hy]
    · rw [hx] at e; exact absurd e (Lin.ne (h1 y hy))
    · rw [hy] at e; exact absurd e.symm (Lin.ne (h1 x hx))
    · exact ih (List.pairwise_cons.1 h).2 hx hy

theorem rises_last {s : List α} (h : Rises key s) {x : α} (hx : x ∈ s) : lastF key s (key x) = some x := by
  obtain ⟨y, hy⟩ := last_of_mem key hx
  rw [hy, rises_key key h (last_mem key hy) hx (last_key key hy)]

theorem last_none {l : List α} {k : κ} (h : ∀ x ∈ l, key x ≠ k) : lastF key l k = none := by
  unfold lastF
  rw [List.find?_eq_none]
  intro x hx
  simpa using h x (by simpa using hx)

theorem snap_last_eq (l : List α) (k : κ) : lastF key (snapF key l) k = lastF key l k := by
  cases h : lastF key l k with
  | some x =>
    have hk := last_key key h
    subst hk
    exact rises_last key (snap_rises key l) ((snap_last key).2 h)
  | none =>
    refine last_none key (fun x hx e => ?_)
    subst e
    rw [(snap_last key).1 hx] at h
    cases h

theorem put_len (s : List α) (e : α) : (putF key s e).length ≤ s.length + 1 := by
  induction s with
  | nil => simp [putF]
  | cons x r ih =>
    unfold putF
    split
    · simp
    · split
      · simp
      · simpa using ih
theorem snap_len (l : List α) : (snapF key l).length ≤ l.length := by
  have : ∀ (l s : List α), (l.foldl (putF key) s).length ≤ s.length + l.length := by
    intro l
    induction l with
    | nil => intro s; simp
    | cons x l ih =>
      intro s
      have h1 := ih (putF key s x)
      have h2 := put_len key s x
      rw [List.foldl_cons, List.length_cons]
      omega
  have h := this l []
  rw [List.length_nil, Nat.zero_add] at h
  exact h

def Found (s : List α) (k : κ) (n : Nat) (f : Bool) : Prop :=
  n ≤ s.length ∧ (∀ i (h : i < s.length), i < n → Lin.lt (key s[i]) k = true) ∧ (∀ i (h : i < s.length), n ≤ i → Lin.lt (key s[i]) k = false) ∧ (f = true ↔ ∃ h : n < s.length, key s[n] = k)

theorem found_set : ∀ {s : List α} {e : α} {n : Nat}, Found key s (key e) n true → n < s.length ∧ s.set n e = putF key s e
  | [], e, n, ⟨_, _, _, h⟩ => by obtain ⟨h, _⟩ := h.1 rfl; simp at h
  | x :: r, e, 0, ⟨_, _, h3, h⟩ => by
    obtain ⟨_, h⟩ := h.1 rfl
    refine ⟨by simp, ?_⟩
    simp only [List.getElem_cons_zero] at h
    unfold putF
    rw [if_neg (by rw [h, Lin.irr]; decide), if_pos h.symm]
    rfl
  | x :: r, e, n + 1, ⟨h1, h2, h3, h⟩ => by
    have hx := h2 0 (by simp) (by omega)
    simp only [List.getElem_cons_zero] at hx
    obtain ⟨h4, h5⟩ := h.1 rfl
    obtain ⟨g1, g2⟩ := found_set (s := r) (e := e) (n := n) ⟨by simpa using h1, fun i hi hin => by have := h2 (i + 1) (by simpa using hi) (by omega); simpa using this,
      fun i hi hin => by have := h3 (i + 1) (by simpa using hi) (by omega); simpa using this, by simpa using ⟨by simpa using h4, h5⟩⟩
    refine ⟨by simpa using g1, ?_⟩
    unfold putF
    rw [if_neg (by rw [Lin.asym hx]; decide), if_neg (fun h => Lin.ne hx h.symm), List.set_cons_succ, g2]

theorem found_ins : ∀ {s : List α} {e : α} {n : Nat}, Found key s (key e) n false → n ≤ s.length ∧ s.take n ++ e :: s.drop n = putF key s e
  | [], e, n, ⟨h, _⟩ => by
    have : n = 0 := by simpa using h
    subst this
    exact ⟨by simp, by simp [putF]⟩
  | x :: r, e, 0, ⟨_, _, h3, h⟩ => by
    refine ⟨by simp, ?_⟩
    have h4 := h3 0 (by simp) (by omega)
    simp only [List.getElem_cons_zero] at h4
    have h5 : key x ≠ key e := fun h6 => by
      have := h.2 ⟨by simp, h6⟩
      cases this
    unfold putF
    rw [if_pos (Lin.gt h4 h5)]
    simp
  | x :: r, e, n + 1, ⟨h1, h2, h3, h⟩ => by
    have hx := h2 0 (by simp) (by omega)
    simp only [List.getElem_cons_zero] at hx
    obtain ⟨g1, g2⟩ := found_ins (s := r) (e := e) (n := n) ⟨by simpa using h1, fun i hi hin => by have := h2 (i + 1) (by simpa using hi) (by omega); simpa using this,
      fun i hi hin => by have := h3 (i + 1) (by simpa using hi) (by omega); simpa using this, by
        constructor
        · intro h; cases h
        · rintro ⟨h4, h5⟩
          exact h.2 ⟨by simpa using h4, by simpa using h5⟩⟩
    refine ⟨by simpa using g1, ?_⟩
    unfold putF
    rw [if_neg (by rw [Lin.asym hx]; decide), if_neg (fun h => Lin.ne hx h.symm), ← g2]
    simp

theorem found_last {s : List α} {k : κ} {n : Nat} {f : Bool} (hr : Rises key s) (h : Found key s k n f) : lastF key s k = if f = true then s[n]? else none := by
  obtain ⟨h1, h2, h3, h4⟩ := h
  cases f with
  | true =>
    obtain ⟨h5, h6⟩ := h4.1 rfl
    rw [if_pos rfl, List.getElem?_eq_getElem h5, ← h6]
    exact rises_last key hr (List.getElem_mem h5)
  | false =>
    rw [if_neg (by decide)]
    refine last_none key (fun x hx e => ?_)
    obtain ⟨i, hi, rfl⟩ := List.getElem_of_mem hx
    have hn : n ≤ i := by
      rcases Nat.lt_or_ge i n with h | h
      · have := h2 i hi h; rw [e, Lin.irr] at this; cases this
      · exact h
    rcases Nat.lt_or_eq_of_le hn with h | h
    · have hlt := (List.pairwise_iff_getElem.1 hr) n i (by omega) hi h
      rw [e] at hlt
      have := h3 n (by omega) (Nat.le_refl _)
      rw [hlt] at this; cases this
    · subst h
      have := h4.2 ⟨hi, e⟩
      cases this
def aheadB (after : Option κ) (k : κ) : Bool := match after with | none => true | some a => Lin.lt a k
def minStep (after m : Option κ) (k : κ) : Option κ :=
  if aheadB after k = true then (match m with | none => some k | some b => if Lin.lt k b = true then some k else some b) else m
def minF (l : List α) (after : Option κ) : Option κ := l.foldl (fun m e => minStep after m (key e)) none
def minStepE (after : Option κ) (m : Option α) (e : α) : Option α :=
  if aheadB after (key e) = true then (match m with | none => some e | some b => if Lin.lt (key b) (key e) = true then some b else some e) else m
def minE (l : List α) (after : Option κ) : Option α := l.foldl (minStepE key after) none
end
end Go.Proofs.Ytcahaaapmaahnaa
