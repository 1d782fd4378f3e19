/- What a call owns in memory: a list of resources, each in blocks of its own; all that was there before is as it was. -/
import Derived.Test.YtlcfdlcmeinhiaaL1
import Derived.Below
namespace Go.Proofs.Ytlcfdlcmeinhiaa
open Go.RowKit

/-- A resource: what is so in blocks F of a world. -/
structure HP where
  holds : (Nat → Prop) → World → Prop
  stable : ∀ F w w', holds F w → (∀ b, F b → w'.heap[b]? = w.heap[b]?) → holds F w'
  dom : ∀ F w b, holds F w → F b → b < w.heap.size

def Sep : List HP → (Nat → Prop) → World → Prop
  | [], _, _ => True
  | A :: L, F, w => ∃ F1 F2 : Nat → Prop, (∀ b, F1 b → F b) ∧ (∀ b, F2 b → F b) ∧ (∀ b, F1 b → F2 b → False) ∧ A.holds F1 w ∧ Sep L F2 w

theorem Sep.mono {w : World} : ∀ {L : List HP} {F F' : Nat → Prop}, Sep L F w → (∀ b, F b → F' b) → Sep L F' w
  | [], _, _, _, _ => trivial
  | _ :: _, _, _, ⟨F1, F2, h1, h2, h3, h4, h5⟩, hF => ⟨F1, F2, fun b h => hF b (h1 b h), fun b h => hF b (h2 b h), h3, h4, h5⟩

theorem Sep.stable {w w' : World} : ∀ {L : List HP} {F : Nat → Prop}, Sep L F w → (∀ b, F b → w'.heap[b]? = w.heap[b]?) → Sep L F w'
  | [], _, _, _ => trivial
  | A :: _, _, ⟨F1, F2, h1, h2, h3, h4, h5⟩, hF => ⟨F1, F2, h1, h2, h3, A.stable _ _ _ h4 (fun b h => hF b (h1 b h)), Sep.stable h5 (fun b h => hF b (h2 b h))⟩

theorem Sep.append {w : World} : ∀ {L L' : List HP} {F F' : Nat → Prop}, Sep L F w → Sep L' F' w → (∀ b, F b → F' b → False) → Sep (L ++ L') (fun b => F b ∨ F' b) w
  | [], _, _, _, _, h', _ => h'.mono (fun _ h => Or.inr h)
  | _ :: _, L', _, F', ⟨F1, F2, h1, h2, h3, h4, h5⟩, h', hd =>
    ⟨F1, fun b => F2 b ∨ F' b, fun b h => .inl (h1 b h), fun b h => h.elim (fun h => .inl (h2 b h)) .inr,
      fun b a c => c.elim (h3 b a) (hd b (h1 b a)), h4, Sep.append h5 h' (fun b a c => hd b (h2 b a) c)⟩

/-- A stands in L; L' is what is left. -/
inductive At : HP → List HP → List HP → Prop
  | here {A : HP} {L : List HP} : At A (A :: L) L
  | there {A B : HP} {L L' : List HP} : At A L L' → At A (B :: L) (B :: L')

theorem Sep.pull {w : World} {A : HP} {L L' : List HP} (h : At A L L') : ∀ {F : Nat → Prop}, Sep L F w → Sep (A :: L') F w := by
  induction h with
  | here => exact fun h => h
  | there h ih =>
    intro F ⟨F1, F2, h1, h2, h3, h4, h5⟩
    obtain ⟨G1, G2, g1, g2, g3, g4, g5⟩ := ih h5
    exact ⟨G1, fun b => F1 b ∨ G2 b, fun b h => h2 b (g1 b h), fun b h => h.elim (h1 b) (fun h => h2 b (g2 b h)),
      fun b a c => c.elim (fun c => h3 b c (g1 b a)) (g3 b a), g4,
      F1, G2, fun b h => .inl h, fun b h => .inr h, fun b a c => h3 b a (g2 b c), h4, g5⟩

inductive Sub : List HP → List HP → Prop
  | nil {L : List HP} : Sub [] L
  | refl {L : List HP} : Sub L L
  | cons {A : HP} {L L1 L' : List HP} : At A L L1 → Sub L' L1 → Sub (A :: L') L

theorem Sub.under {L' L : List HP} (h : Sub L' L) : ∀ {A : HP}, Sub L' (A :: L) := by
  induction h with
  | nil => exact .nil
  | refl =>
    rename_i L
    intro A
    induction L generalizing A with
    | nil => exact .nil
    | cons B L ih => exact .cons (At.there At.here) ih
  | cons hat _ ih => intro A; exact .cons (At.there hat) ih
theorem Sub.cons_drop {A : HP} {L : List HP} : Sub L (A :: L) := Sub.under .refl

theorem Sep.sub {w : World} {L' L : List HP} (h : Sub L' L) : ∀ {F : Nat → Prop}, Sep L F w → Sep L' F w := by
  induction h with
  | nil => exact fun _ => trivial
  | refl => exact fun h => h
  | cons hat _ ih =>
    intro F h
    obtain ⟨F1, F2, h1, h2, h3, h4, h5⟩ := h.pull hat
    exact ⟨F1, F2, h1, h2, h3, h4, ih h5⟩

/-- Since w0: what was there is as it was; L is owned. -/
structure St (w0 : World) (L : List HP) (w : World) : Prop where
  below : Below w0.heap.size w0 w
  own : ∃ F : Nat → Prop, (∀ b, F b → w0.heap.size ≤ b ∧ b < w.heap.size) ∧ Sep L F w

theorem St.refl (w : World) : St w [] w := ⟨Below.refl _ _, fun _ => False, fun _ h => h.elim, trivial⟩

theorem St.sub {w0 w : World} {L L' : List HP} (h : St w0 L w) (hs : Sub L' L) : St w0 L' w :=
  let ⟨F, hF, h'⟩ := h.own
  ⟨h.below, F, hF, h'.sub hs⟩

theorem St.drew {w0 w : World} {L : List HP} (h : St w0 L w) : St w0 L w.drew :=
  let ⟨F, hF, h'⟩ := h.own
  ⟨h.below.drew, F, hF, h'.stable (fun _ _ => rfl)⟩

def HP.rd (A : HP) (w : World) : Prop := ∃ F, A.holds F w

theorem HP.rd.mono {A : HP} {w w' : World} (h : A.rd w) (hb : Below w.heap.size w w') : A.rd w' :=
  let ⟨F, hF⟩ := h
  ⟨F, A.stable _ _ _ hF (fun b hb' => hb.block b (A.dom _ _ _ hF hb'))⟩

theorem St.base {w0 w : World} {L : List HP} (h : St w0 L w) {A : HP} (hA : A.rd w0) : A.rd w := hA.mono h.below

theorem St.rd {w0 w : World} {L L' : List HP} (h : St w0 L w) {A : HP} (hat : At A L L') : A.rd w :=
  let ⟨_, _, h'⟩ := h.own
  let ⟨F1, _, _, _, _, h4, _⟩ := h'.pull hat
  ⟨F1, h4⟩

/-- Behind a call that leaves what was there alone and hands back L1. -/
theorem St.call {w0 w w' : World} {L L1 : List HP} (h : St w0 L w) (h1 : St w L1 w') : St w0 (L1 ++ L) w' := by
  obtain ⟨F, hF, hS⟩ := h.own
  obtain ⟨G, hG, hT⟩ := h1.own
  refine ⟨h.below.trans (h1.below.mono h.below.size), fun b => G b ∨ F b, ?_, ?_⟩
  · intro b hb
    rcases hb with hb | hb
    · exact ⟨Nat.le_trans h.below.size (hG b hb).1, (hG b hb).2⟩
    · exact ⟨(hF b hb).1, Nat.lt_of_lt_of_le (hF b hb).2 h1.below.size⟩
  · exact hT.append (hS.stable (fun b hb => h1.below.block b (hF b hb).2)) (fun b a c => by have := (hG b a).1; have := (hF b c).2; omega)

/-- One resource is changed: only its own blocks are written; new blocks may be laid. -/
theorem St.change {w0 w w' : World} {L L' : List HP} {A : HP} {As : List HP} (h : St w0 L w) (hat : At A L L')
    (hw : ∀ F, A.holds F w → w'.os = w.os ∧ w'.tape = w.tape ∧ w'.output = w.output ∧ w.heap.size ≤ w'.heap.size ∧ (∀ b, b < w.heap.size → ¬ F b → w'.heap[b]? = w.heap[b]?) ∧
      ∃ G : Nat → Prop, (∀ b, G b → (F b ∨ w.heap.size ≤ b) ∧ b < w'.heap.size) ∧ Sep As G w') : St w0 (As ++ L') w' := by
  obtain ⟨F, hF, hS⟩ := h.own
  obtain ⟨F1, F2, h1, h2, h3, h4, h5⟩ := hS.pull hat
  obtain ⟨ho, ht, hou, hsz, hbl, G, hG, hT⟩ := hw F1 h4
  have hB : Below w0.heap.size w w' := ⟨ho, ht, hou, hsz, fun k hk => hbl k (Nat.lt_of_lt_of_le hk h.below.size) (fun hf => by have := (hF k (h1 k hf)).1; omega)⟩
  refine ⟨h.below.trans hB, fun b => G b ∨ F2 b, ?_, ?_⟩
  · intro b hb
    rcases hb with hb | hb
    · obtain ⟨hg, hl⟩ := hG b hb
      refine ⟨?_, hl⟩
      rcases hg with hg | hg
      · exact (hF b (h1 b hg)).1
      · have := h.below.size; omega
    · exact ⟨(hF b (h2 b hb)).1, Nat.lt_of_lt_of_le (hF b (h2 b hb)).2 hsz⟩
  · refine hT.append (h5.stable (fun b hb => hbl b (hF b (h2 b hb)).2 (fun hf => h3 b hf hb))) (fun b a c => ?_)
    rcases (hG b a).1 with hg | hg
    · exact h3 b hg c
    · have := (hF b (h2 b c)).2; omega

/-- New blocks, nothing else. -/
theorem St.new {w0 w w' : World} {L As : List HP} (h : St w0 L w) (hb : Below w.heap.size w w') (hA : ∃ G : Nat → Prop, (∀ b, G b → w.heap.size ≤ b ∧ b < w'.heap.size) ∧ Sep As G w') : St w0 (As ++ L) w' :=
  h.call ⟨hb, hA⟩

theorem Sep.one {A : HP} {G : Nat → Prop} {w : World} (h : A.holds G w) : Sep [A] G w :=
  ⟨G, fun _ => False, fun _ h => h, fun _ h => h.elim, fun _ _ h => h, h, trivial⟩

/-! ## A block of cells -/
def pts (b : Nat) (vs : List Value) (T : TypeId) : HP where
  holds F w := F b ∧ (∀ c, F c → c = b) ∧ w.heap[b]? = some (.cells vs.toArray T (0, 0))
  stable := fun F w w' ⟨h1, h2, h3⟩ h => ⟨h1, h2, by rw [h b h1]; exact h3⟩
  dom := fun F w c ⟨h1, h2, h3⟩ hc => by
    rw [h2 c hc]
    rcases Nat.lt_or_ge b w.heap.size with h' | h'
    · exact h'
    · rw [Array.getElem?_eq_none h'] at h3; cases h3

theorem pts.block {b : Nat} {vs : List Value} {T : TypeId} {w : World} (h : (pts b vs T).rd w) : w.heap[b]? = some (.cells vs.toArray T (0, 0)) :=
  let ⟨_, h⟩ := h
  h.2.2

theorem St.alloc {w0 w : World} {L : List HP} (h : St w0 L w) (vs : List Value) (T : TypeId) : St w0 (pts w.heap.size vs T :: L) (w.alloc (.cells vs.toArray T)) := by
  refine h.new (As := [_]) ((Below.refl _ _).alloc (Nat.le_refl _) _) ⟨fun b => b = w.heap.size, fun b hb => by subst hb; simp, Sep.one ⟨rfl, fun _ h => h, ?_⟩⟩
  exact heap_alloc_new w _

theorem pts.setCell {b i : Nat} {vs : List Value} {T : TypeId} {w : World} (h : w.heap[b]? = some (.cells vs.toArray T (0, 0))) (v : Value) :
    (w.setCell ⟨b, i, none⟩ v).heap[b]? = some (.cells (vs.set i v).toArray T (0, 0)) := by
  simp [World.setCell, Array.getElem?_modify, h]

theorem St.setCell {w0 w : World} {L L' : List HP} {b i : Nat} {vs : List Value} {T : TypeId} (h : St w0 L w) (hat : At (pts b vs T) L L') (v : Value) :
    St w0 (pts b (vs.set i v) T :: L') (w.setCell ⟨b, i, none⟩ v) := by
  refine h.change (As := [_]) hat (fun F ⟨h1, h2, h3⟩ => ⟨rfl, rfl, rfl, by simp [World.setCell], fun c _ hc => ?_, F, fun c hc => ⟨.inl hc, ?_⟩, Sep.one ⟨h1, h2, pts.setCell h3 v⟩⟩)
  · exact Below.heap_setCell _ _ _ _ (fun e => hc (by subst e; exact h1))
  · have := (pts b vs T).dom F w c ⟨h1, h2, h3⟩ hc
    simpa [World.setCell] using this

end Go.Proofs.Ytlcfdlcmeinhiaa
