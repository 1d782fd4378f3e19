/- What a call owns in memory: a list of resources, each in blocks of its own; all that was there before is as it was. -/
import Derived.Test.YtakejjfmbgbedaaL1
import Derived.Below
namespace Go.Proofs.Ytakejjfmbgbedaa
open Go.RowKit

/-- A resource: what is so in blocks F of a world. -/
structure HP where
  holds : (Nat → Prop) → World → Prop
  stable : ∀ F w w', holds F w → (∀ b, F b → w'.heap[b]? = w.heap[b]?) → holds F w'
  dom : ∀ F w b, holds F w → F b → b < w.heap.size

def Sep : List HP → (Nat → Prop) → World → Prop
  | [], _, _ => True
  | A :: L, F, w => ∃ F1 F2 : Nat → Prop, (∀ b, F1 b → F b) ∧ (∀ b, F2 b → F b) ∧ (∀ b, F1 b → F2 b → False) ∧ A.holds F1 w ∧ Sep L F2 w

theorem Sep.mono {w : World} : ∀ {L : List HP} {F F' : Nat → Prop}, Sep L F w → (∀ b, F b → F' b) → Sep L F' w
  | [], _, _, _, _ => trivial
  | _ :: _, _, _, ⟨F1, F2, h1, h2, h3, h4, h5⟩, hF => ⟨F1, F2, fun b h => hF b (h1 b h), fun b h => hF b (h2 b h), h3, h4, h5⟩

theorem Sep.stable {w w' : World} : ∀ {L : List HP} {F : Nat → Prop}, Sep L F w → (∀ b, F b → w'.heap[b]? = w.heap[b]?) → Sep L F w'
  | [], _, _, _ => trivial
  | A :: _, _, ⟨F1, F2, h1, h2, h3, h4, h5⟩, hF => ⟨F1, F2, h1, h2, h3, A.stable _ _ _ h4 (fun b h => hF b (h1 b h)), Sep.stable h5 (fun b h => hF b (h2 b h))⟩

theorem Sep.append {w : World} : ∀ {L L' : List HP} {F F' : Nat → Prop}, Sep L F w → Sep L' F' w → (∀ b, F b → F' b → False) → Sep (L ++ L') (fun b => F b ∨ F' b) w
  | [], _, _, _, _, h', _ => h'.mono (fun _ h => Or.inr h)
  | _ :: _, L', _, F', ⟨F1, F2, h1, h2, h3, h4, h5⟩, h', hd =>
    ⟨F1, fun b => F2 b ∨ F' b, fun b h => .inl (h1 b h), fun b h => h.elim (fun h => .inl (h2 b h)) .inr,
      fun b a c => c.elim (h3 b a) (hd b (h1 b a)), h4, Sep.append h5 h' (fun b a c => hd b (h2 b a) c)⟩

/-- A stands in L; L' is what is left. -/
inductive At : HP → List HP → List HP → Prop
  | here {A : HP} {L : List HP} : At A (A :: L) L
  | there {A B : HP} {L L' : List HP} : At A L L' → At A (B :: L) (B :: L')

theorem Sep.pull {w : World} {A : HP} {L L' : List HP} (h : At A L L') : ∀ {F : Nat → Prop}, Sep L F w → Sep (A :: L') F w := by
  induction h with
  | here => exact fun h => h
  | there h ih =>
    intro F ⟨F1, F2, h1, h2, h3, h4, h5⟩
    obtain ⟨G1, G2, g1, g2, g3, g4, g5⟩ := ih h5
    exact ⟨G1, fun b => F1 b ∨ G2 b, fun b h => h2 b (g1 b h), fun b h => h.elim (h1 b) (fun h => h2 b (g2 b h)),
      fun b a c => c.elim (fun c => h3 b c (g1 b a)) (g3 b a), g4,
      F1, G2, fun b h => .inl h, fun b h => .inr h, fun b a c => h3 b a (g2 b c), h4, g5⟩

inductive Sub : List HP → List HP → Prop
  | nil {L : List HP} : Sub [] L
  | refl {L : List HP} : Sub L L
  | cons {A : HP} {L L1 L' : List HP} : At A L L1 → Sub L' L1 → Sub (A :: L') L

theorem Sub.under {L' L : List HP} (h : Sub L' L) : ∀ {A : HP}, Sub L' (A :: L) := by
  induction h with
  | nil => exact .nil
  | refl =>
    rename_i L
    intro A
    induction L generalizing A with
    | nil => exact .nil
    | cons B L ih => exact .cons (At.there At.here) ih
  | cons hat _ ih => intro A; exact .cons (At.there hat) ih
theorem Sub.cons_drop {A : HP} {L : List HP} : Sub L (A :: L) := Sub.under .refl

theorem Sep.sub {w : World} {L' L : List HP} (h : Sub L' L) : ∀ {F : Nat → Prop}, Sep L F w → Sep L' F w := by
  induction h with
  | nil => exact fun _ => trivial
  | refl => exact fun h => h
  | cons hat _ ih =>
    intro F h
    obtain ⟨F1, F2, h1, h2, h3, h4, h5⟩ := h.pull hat
    exact ⟨F1, F2, h1, h2, h3, h4, ih h5⟩

/-- What no frozen world holds. -/
def dead : Obj := .coro none
def live (g : World) (b : Nat) : Prop := ∃ o : Obj, g.heap[b]? = some o ∧ o ≠ dead
/-- What g holds is so in w, too. -/
def Frz (g w : World) : Prop := ∀ (b : Nat) (o : Obj), g.heap[b]? = some o → o ≠ dead → w.heap[b]? = some o
theorem Frz.refl (w : World) : Frz w w := fun _ _ h _ => h
theorem Frz.trans {a b c : World} (h : Frz a b) (k : Frz b c) : Frz a c := fun i o hi ho => k i o (h i o hi ho) ho
theorem Frz.live {a b : World} (h : Frz a b) {i : Nat} (hi : live a i) : Proofs.Ytakejjfmbgbedaa.live b i := let ⟨o, h1, h2⟩ := hi; ⟨o, h i o h1 h2, h2⟩
theorem live.lt {w : World} {b : Nat} (h : live w b) : b < w.heap.size := by
  obtain ⟨o, h, _⟩ := h
  rcases Nat.lt_or_ge b w.heap.size with h' | h'
  · exact h'
  · rw [Array.getElem?_eq_none h'] at h; cases h
theorem Frz.cell {g w : World} (h : Frz g w) {a : Addr} {u : Value} (hc : g.cell? a = some u) : w.cell? a = some u := by
  unfold World.cell? at hc ⊢
  cases hb : g.heap[a.block]? with
  | none => rw [hb] at hc; cases hc
  | some o =>
    rw [hb] at hc
    cases o <;> try (simp at hc; done)
    rw [h a.block _ hb (by intro h; cases h)]
    exact hc
theorem Frz.below {g w w' : World} (h : Frz g w) (hb : Below w.heap.size w w') : Frz g w' := fun b o h1 h2 => by
  have h3 := h b o h1 h2
  rw [hb.block b (live.lt ⟨o, h3, h2⟩)]
  exact h3
theorem Frz.of_below {w w' : World} (hb : Below w.heap.size w w') : Frz w w' := (Frz.refl w).below hb
/-- g' holds what g does, and what is newer than w. -/
def Ext (g g' w : World) : Prop := Frz g g' ∧ ∀ b, live g' b → live g b ∨ w.heap.size ≤ b
theorem Ext.refl (g w : World) : Ext g g w := ⟨Frz.refl g, fun _ h => .inl h⟩
theorem Ext.trans {g g' g'' w w' : World} (h : Ext g g' w) (h' : Ext g' g'' w') (hw : w.heap.size ≤ w'.heap.size) : Ext g g'' w :=
  ⟨h.1.trans h'.1, fun b hb => (h'.2 b hb).elim (fun hb => h.2 b hb) (fun hb => .inr (Nat.le_trans hw hb))⟩
theorem Ext.low {g g' w w' : World} (h : Ext g g' w') (hw : w.heap.size ≤ w'.heap.size) : Ext g g' w := ⟨h.1, fun b hb => (h.2 b hb).imp id (Nat.le_trans hw)⟩

/-- Where a call began: w; and what is frozen: g. -/
structure Bs where
  g : World
  w : World
instance : Coe World Bs := ⟨fun w => ⟨w, w⟩⟩

/-- Since the base: what was there is as it was; what is frozen is so; L is owned. -/
structure St (B : Bs) (L : List HP) (w : World) : Prop where
  below : Below B.w.heap.size B.w w
  frz : Frz B.g w
  own : ∃ F : Nat → Prop, (∀ b, F b → (B.w.heap.size ≤ b ∧ ¬ live B.g b) ∧ b < w.heap.size) ∧ Sep L F w

theorem St.refl (w : World) : St w [] w := ⟨Below.refl _ _, Frz.refl _, fun _ => False, fun _ h => h.elim, trivial⟩
theorem St.reflG {g w : World} (h : Frz g w) : St ⟨g, w⟩ [] w := ⟨Below.refl _ _, h, fun _ => False, fun _ h => h.elim, trivial⟩

theorem St.sub {B : Bs} {w : World} {L L' : List HP} (h : St B L w) (hs : Sub L' L) : St B L' w :=
  let ⟨F, hF, h'⟩ := h.own
  ⟨h.below, h.frz, F, hF, h'.sub hs⟩

theorem St.drew {B : Bs} {w : World} {L : List HP} (h : St B L w) : St B L w.drew :=
  let ⟨F, hF, h'⟩ := h.own
  ⟨h.below.drew, fun b o h1 h2 => h.frz b o h1 h2, F, hF, h'.stable (fun _ _ => rfl)⟩

def HP.rd (A : HP) (w : World) : Prop := ∃ F, A.holds F w

theorem HP.rd.mono {A : HP} {w w' : World} (h : A.rd w) (hb : Below w.heap.size w w') : A.rd w' :=
  let ⟨F, hF⟩ := h
  ⟨F, A.stable _ _ _ hF (fun b hb' => hb.block b (A.dom _ _ _ hF hb'))⟩

theorem St.rd {B : Bs} {w : World} {L L' : List HP} (h : St B L w) {A : HP} (hat : At A L L') : A.rd w :=
  let ⟨_, _, h'⟩ := h.own
  let ⟨F1, _, _, _, _, h4, _⟩ := h'.pull hat
  ⟨F1, h4⟩

/-- Behind a call that leaves what was there alone, has frozen more, and hands back L1. -/
theorem St.callG {B : Bs} {g w w' : World} {L L1 : List HP} (h : St B L w) (hx : Ext B.g g w) (h1 : St ⟨g, w⟩ L1 w') : St ⟨g, B.w⟩ (L1 ++ L) w' := by
  obtain ⟨F, hF, hS⟩ := h.own
  obtain ⟨G, hG, hT⟩ := h1.own
  refine ⟨h.below.trans (h1.below.mono h.below.size), h1.frz, fun b => G b ∨ F b, ?_, ?_⟩
  · intro b hb
    rcases hb with hb | hb
    · exact ⟨⟨Nat.le_trans h.below.size (hG b hb).1.1, (hG b hb).1.2⟩, (hG b hb).2⟩
    · refine ⟨⟨(hF b hb).1.1, fun hl => ?_⟩, Nat.lt_of_lt_of_le (hF b hb).2 h1.below.size⟩
      rcases hx.2 b hl with hl | hl
      · exact (hF b hb).1.2 hl
      · have := (hF b hb).2; omega
  · exact hT.append (hS.stable (fun b hb => h1.below.block b (hF b hb).2)) (fun b a c => by have h1 : w.heap.size ≤ b := (hG b a).1.1; have h2 := (hF b c).2; omega)

/-- Behind a call that leaves what was there alone and hands back L1. -/
theorem St.call {B : Bs} {w w' : World} {L L1 : List HP} (h : St B L w) (h1 : St w L1 w') : St B (L1 ++ L) w' := by
  refine h.callG (g := B.g) (Ext.refl _ _) ⟨h1.below, h.frz.below h1.below, ?_⟩
  obtain ⟨G, hG, hT⟩ := h1.own
  exact ⟨G, fun b hb => ⟨⟨(hG b hb).1.1, fun hl => (hG b hb).1.2 (h.frz.live hl)⟩, (hG b hb).2⟩, hT⟩

/-- One resource is changed: only its own blocks are written; new blocks may be laid. -/
theorem St.change {B : Bs} {w w' : World} {L L' : List HP} {A : HP} {As : List HP} (h : St B L w) (hat : At A L L')
    (hw : ∀ F, A.holds F w → w'.os = w.os ∧ w'.tape = w.tape ∧ w'.output = w.output ∧ w.heap.size ≤ w'.heap.size ∧ (∀ b, b < w.heap.size → ¬ F b → w'.heap[b]? = w.heap[b]?) ∧
      ∃ G : Nat → Prop, (∀ b, G b → (F b ∨ w.heap.size ≤ b) ∧ b < w'.heap.size) ∧ Sep As G w') : St B (As ++ L') w' := by
  obtain ⟨F, hF, hS⟩ := h.own
  obtain ⟨F1, F2, h1, h2, h3, h4, h5⟩ := hS.pull hat
  obtain ⟨ho, ht, hou, hsz, hbl, G, hG, hT⟩ := hw F1 h4
  have hB : Below B.w.heap.size w w' := ⟨ho, ht, hou, hsz, fun k hk => hbl k (Nat.lt_of_lt_of_le hk h.below.size) (fun hf => by have := (hF k (h1 k hf)).1.1; omega)⟩
  refine ⟨h.below.trans hB, fun b o hb ho => ?_, fun b => G b ∨ F2 b, ?_, ?_⟩
  · have h6 := h.frz b o hb ho
    rw [hbl b (live.lt ⟨o, h6, ho⟩) (fun hf => (hF b (h1 b hf)).1.2 ⟨o, hb, ho⟩)]
    exact h6
  · intro b hb
    rcases hb with hb | hb
    · obtain ⟨hg, hl⟩ := hG b hb
      refine ⟨?_, hl⟩
      rcases hg with hg | hg
      · exact (hF b (h1 b hg)).1
      · refine ⟨by have := h.below.size; omega, fun hl => ?_⟩
        have := (h.frz.live hl).lt
        omega
    · exact ⟨(hF b (h2 b hb)).1, Nat.lt_of_lt_of_le (hF b (h2 b hb)).2 hsz⟩
  · refine hT.append (h5.stable (fun b hb => hbl b (hF b (h2 b hb)).2 (fun hf => h3 b hf hb))) (fun b a c => ?_)
    rcases (hG b a).1 with hg | hg
    · exact h3 b hg c
    · have := (hF b (h2 b c)).2; omega

/-- New blocks, nothing else. -/
theorem St.new {B : Bs} {w w' : World} {L As : List HP} (h : St B L w) (hb : Below w.heap.size w w') (hA : ∃ G : Nat → Prop, (∀ b, G b → w.heap.size ≤ b ∧ b < w'.heap.size) ∧ Sep As G w') : St B (As ++ L) w' :=
  h.call ⟨hb, Frz.of_below hb, let ⟨G, h1, h2⟩ := hA; ⟨G, fun b hb => ⟨⟨(h1 b hb).1, fun hl => by have := hl.lt; have := (h1 b hb).1; simp only at *; omega⟩, (h1 b hb).2⟩, h2⟩⟩

open Classical in
/-- g, and w in F. -/
noncomputable def over (g w : World) (F : Nat → Prop) : World := { w with heap := ((List.range w.heap.size).map (fun i => if F i then (w.heap[i]?).getD dead else (g.heap[i]?).getD dead)).toArray }

theorem over_in {g w : World} {F : Nat → Prop} {b : Nat} (hb : b < w.heap.size) (hF : F b) : (over g w F).heap[b]? = w.heap[b]? := by
  simp [over, hb, hF]
theorem over_out {g w : World} {F : Nat → Prop} {b : Nat} (hb : b < w.heap.size) (hF : ¬ F b) : (over g w F).heap[b]? = some ((g.heap[b]?).getD dead) := by
  simp [over, hb, hF]
theorem over_size (g w : World) (F : Nat → Prop) : (over g w F).heap.size = w.heap.size := by simp [over]

/-- **What is owned is frozen**: from here on it is as it is. -/
theorem St.freeze {B : Bs} {w : World} {L L' : List HP} {A : HP} (h : St B L w) (hat : At A L L') : ∃ g, Ext B.g g B.w ∧ A.rd g ∧ St ⟨g, B.w⟩ L' w := by
  obtain ⟨F, hF, hS⟩ := h.own
  obtain ⟨F1, F2, h1, h2, h3, h4, h5⟩ := hS.pull hat
  refine ⟨over B.g w F1, ⟨fun b o hb ho => ?_, fun b hb => ?_⟩, ⟨F1, A.stable _ _ _ h4 (fun b hb => over_in (hF b (h1 b hb)).2 hb)⟩, h.below, fun b o hb ho => ?_, F2, fun b hb => ⟨⟨(hF b (h2 b hb)).1.1, fun hl => ?_⟩, (hF b (h2 b hb)).2⟩, h5⟩
  · have hlt := (h.frz.live ⟨o, hb, ho⟩).lt
    rw [over_out hlt (fun hf => (hF b (h1 b hf)).1.2 ⟨o, hb, ho⟩), hb]
    rfl
  · have hlt := hb.lt
    rw [over_size] at hlt
    by_cases hf : F1 b
    · exact .inr (hF b (h1 b hf)).1.1
    · obtain ⟨o, ho, hd⟩ := hb
      rw [over_out hlt hf] at ho
      left
      cases hg : B.g.heap[b]? with
      | none => rw [hg] at ho; simp at ho; exact absurd ho.symm hd
      | some o' => rw [hg] at ho; simp at ho; subst ho; exact ⟨o', hg, hd⟩
  · have hlt := live.lt ⟨o, hb, ho⟩
    rw [over_size] at hlt
    by_cases hf : F1 b
    · rw [over_in hlt hf] at hb; exact hb
    · rw [over_out hlt hf] at hb
      cases hg : B.g.heap[b]? with
      | none => rw [hg] at hb; simp at hb; exact absurd hb.symm ho
      | some o' => rw [hg] at hb; simp at hb; subst hb; exact h.frz b o' hg ho
  · have hlt := (hF b (h2 b hb)).2
    obtain ⟨o, ho, hd⟩ := hl
    rw [over_out hlt (fun hf => h3 b hf hb)] at ho
    cases hg : B.g.heap[b]? with
    | none => rw [hg] at ho; simp at ho; exact hd ho.symm
    | some o' => rw [hg] at ho; simp at ho; subst ho; exact (hF b (h2 b hb)).1.2 ⟨o', hg, hd⟩

theorem Sep.one {A : HP} {G : Nat → Prop} {w : World} (h : A.holds G w) : Sep [A] G w :=
  ⟨G, fun _ => False, fun _ h => h, fun _ h => h.elim, fun _ _ h => h, h, trivial⟩

/-! ## A block of cells -/
def pts (b : Nat) (vs : List Value) (T : TypeId) : HP where
  holds F w := F b ∧ (∀ c, F c → c = b) ∧ w.heap[b]? = some (.cells vs.toArray T (0, 0))
  stable := fun F w w' ⟨h1, h2, h3⟩ h => ⟨h1, h2, by rw [h b h1]; exact h3⟩
  dom := fun F w c ⟨h1, h2, h3⟩ hc => by
    rw [h2 c hc]
    rcases Nat.lt_or_ge b w.heap.size with h' | h'
    · exact h'
    · rw [Array.getElem?_eq_none h'] at h3; cases h3



theorem pts.block {b : Nat} {vs : List Value} {T : TypeId} {w : World} (h : (pts b vs T).rd w) : w.heap[b]? = some (.cells vs.toArray T (0, 0)) :=
  let ⟨_, h⟩ := h
  h.2.2
theorem pts.frz {b : Nat} {vs : List Value} {T : TypeId} {g w : World} (h : (pts b vs T).rd g) (hf : Frz g w) : (pts b vs T).rd w :=
  ⟨fun c => c = b, rfl, fun _ h => h, hf b _ (pts.block h) (by intro h; cases h)⟩
theorem St.base {B : Bs} {w : World} {L : List HP} (h : St B L w) {b : Nat} {vs : List Value} {T : TypeId} (hA : (pts b vs T).rd B.g) : (pts b vs T).rd w := pts.frz hA h.frz

theorem St.alloc {w0 : Bs} {w : World} {L : List HP} (h : St w0 L w) (vs : List Value) (T : TypeId) : St w0 (pts w.heap.size vs T :: L) (w.alloc (.cells vs.toArray T)) := by
  refine h.new (As := [_]) ((Below.refl _ _).alloc (Nat.le_refl _) _) ⟨fun b => b = w.heap.size, fun b hb => by subst hb; simp, Sep.one ⟨rfl, fun _ h => h, ?_⟩⟩
  exact heap_alloc_new w _

theorem pts.setCell {b i : Nat} {vs : List Value} {T : TypeId} {w : World} (h : w.heap[b]? = some (.cells vs.toArray T (0, 0))) (v : Value) :
    (w.setCell ⟨b, i, none⟩ v).heap[b]? = some (.cells (vs.set i v).toArray T (0, 0)) := by
  simp [World.setCell, Array.getElem?_modify, h]

theorem St.setCell {w0 : Bs} {w : World} {L L' : List HP} {b i : Nat} {vs : List Value} {T : TypeId} (h : St w0 L w) (hat : At (pts b vs T) L L') (v : Value) :
    St w0 (pts b (vs.set i v) T :: L') (w.setCell ⟨b, i, none⟩ v) := by
  refine h.change (As := [_]) hat (fun F ⟨h1, h2, h3⟩ => ⟨rfl, rfl, rfl, by simp [World.setCell], fun c _ hc => ?_, F, fun c hc => ⟨.inl hc, ?_⟩, Sep.one ⟨h1, h2, pts.setCell h3 v⟩⟩)
  · exact Below.heap_setCell _ _ _ _ (fun e => hc (by subst e; exact h1))
  · have := (pts b vs T).dom F w c ⟨h1, h2, h3⟩ hc
    simpa [World.setCell] using this

end Go.Proofs.Ytakejjfmbgbedaa
