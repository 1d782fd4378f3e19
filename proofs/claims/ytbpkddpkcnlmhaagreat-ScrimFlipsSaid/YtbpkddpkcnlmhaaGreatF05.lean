/- Layer 5, plain: nodes in rows, and who stands below whom. Layer 5, plain: what keeps nodes a tree, and loose ones. From the form's reading of a slice to its elements. Steps that part the cases themselves; elements by their places; one round of a loop. What the library's own contracts write, in these texts' words. -/
import Derived.Test.YtbpkddpkcnlmhaaGreatF04
import Derived.Tactics
import Derived.Laws.IdiomCopy
import Derived.Deep.Draws
set_option linter.all false
namespace Go.Proofs.YtbpkddpkcnlmhaaGreat
structure NodeP where
 id : Int
 kind : Int
 tag : ByteArray
 text : ByteArray
 cls : List ByteArray
 att : List (ByteArray × ByteArray)
 sty : List (ByteArray × Int)
 par : Int
 kids : List Int
def fnP : List NodeP → Int → Option NodeP
 | [], _ => none
 | n :: l, id => if n.id = id then some n else fnP l id
def putP (l : List NodeP) (n : NodeP) : List NodeP := l.map (fun x => if x.id = n.id then n else x)
theorem fnd_id {l : List NodeP} {id : Int} {n : NodeP} (h : fnP l id = some n) : n.id = id := by
 induction l with
 | nil => cases h
 | cons x l ih =>
  unfold fnP at h
  split at h
  ·rename_i hx;cases h;exact hx
  ·exact ih h
theorem fnd_mem {l : List NodeP} {id : Int} {n : NodeP} (h : fnP l id = some n) : n ∈ l := by
 induction l with
 | nil => cases h
 | cons x l ih =>
  unfold fnP at h
  split at h
  ·cases h;exact List.mem_cons_self
  ·exact List.mem_cons_of_mem _ (ih h)
theorem fnd_of_mem {l : List NodeP} (hu : (l.map (·.id)).Nodup) {n : NodeP} (h : n ∈ l) : fnP l n.id = some n := by
 induction l with
 | nil => cases h
 | cons x l ih =>
  simp only [List.map_cons, List.nodup_cons] at hu
  unfold fnP
  rcases List.mem_cons.1 h with rfl | h
  ·rw [if_pos rfl]
  ·rw [if_neg (fun e => hu.1 (by rw [e];exact List.mem_map_of_mem h))]
   exact ih hu.2 h
theorem fnd_put (l : List NodeP) (n : NodeP) (id : Int) : fnP (putP l n) id = if id = n.id then (if (fnP l id).isSome then some n else none) else fnP l id := by
 induction l with
 | nil => simp [putP, fnP]
 | cons x l ih =>
  have ih : fnP (putP l n) id = _ := ih
  show fnP ((if x.id = n.id then n else x) :: putP l n) id = _
  by_cases hx : x.id = n.id
  ·rw [if_pos hx]
   unfold fnP
   by_cases hi : n.id = id
   ·rw [if_pos hi, if_pos hi.symm, if_pos (hx.trans hi)];rfl
   ·rw [if_neg hi, if_neg (fun e => hi (hx.symm.trans e)), ih]
  ·rw [if_neg hx]
   unfold fnP
   by_cases hi : x.id = id
   ·rw [if_pos hi, if_pos hi, if_neg (fun e => hx (hi.trans e))]
   ·rw [if_neg hi, if_neg hi, ih]
theorem fnd_put_some {l : List NodeP} {n m : NodeP} (h : fnP l n.id = some m) (id : Int) : fnP (putP l n) id = if id = n.id then some n else fnP l id := by
 rw [fnd_put]
 by_cases hi : id = n.id
 ·subst hi;rw [if_pos rfl, if_pos rfl, h];rfl
 ·rw [if_neg hi, if_neg hi]
theorem put_len0 (l : List NodeP) (n : NodeP) : (putP l n).length = l.length := List.length_map _
theorem put_ids (l : List NodeP) (n : NodeP) : (putP l n).map (·.id) = l.map (·.id) := by
 unfold putP
 rw [List.map_map]
 apply List.map_congr_left
 intro x _
 simp only [Function.comp]
 split
 ·rename_i h;exact h.symm
 ·rfl
theorem put_mem0 {l : List NodeP} {n x : NodeP} (h : x ∈ putP l n) : x = n ∨ x ∈ l := by
 obtain ⟨y, hy, rfl⟩ := List.mem_map.1 h
 split
 ·exact .inl rfl
 ·exact .inr hy
theorem fnd_app (l : List NodeP) (n : NodeP) (id : Int) : fnP (l ++ [n]) id = match fnP l id with
  | some x => some x
  | none => if n.id = id then some n else none := by
 induction l with
 | nil => simp [fnP]
 | cons x l ih =>
  rw [List.cons_append]
  unfold fnP
  split
  ·rfl
  ·exact ih
theorem fnd_filter (l : List NodeP) (p : Int → Bool) (id : Int) : fnP (l.filter (fun x => p x.id)) id = if p id = true then fnP l id else none := by
 induction l with
 | nil => simp [fnP]
 | cons x l ih =>
  by_cases hp : p x.id = true
  ·rw [List.filter_cons, if_pos hp]
   unfold fnP
   by_cases hi : x.id = id
   ·rw [if_pos hi, if_pos hi, ← hi, if_pos hp]
   ·rw [if_neg hi, if_neg hi, ih]
  ·rw [List.filter_cons, if_neg hp, ih]
   by_cases hi : x.id = id
   ·rw [← hi, if_neg hp, if_neg hp]
   ·conv => rhs;unfold fnP
    rw [if_neg hi]
abbrev Nds := Int → Option NodeP
def kidOf (f : Nds) (a b : Int) : Prop := ∃ n, f b = some n ∧ a ∈ n.kids
def parOf (f : Nds) (a b : Int) : Prop := ∃ n, f b = some n ∧ n.par = a
structure Wf (next : Int) (f : Nds) : Prop where
 nx : 1 ≤ next
 idn : ∀ id n, f id = some n → n.id = id ∧ 0 ≤ id ∧ id < next
 root : ∃ n, f 0 = some n ∧ n.kind = 2 ∧ n.par = -1
 knd : ∀ id n, f id = some n → n.kind = 1 ∨ n.kind = 2
 down : ∀ id n, f id = some n → ∀ k ∈ n.kids, ∃ c, f k = some c ∧ c.par = id
 up : ∀ id n, f id = some n → n.par = -1 ∨ ∃ p, f n.par = some p ∧ id ∈ p.kids
 nod : ∀ id n, f id = some n → n.kids.Nodup
 accD : ∀ id, _root_.Acc (kidOf f) id
 accU : ∀ id, _root_.Acc (parOf f) id
theorem Wf.neg {next : Int} {f : Nds} (h : Wf next f) {id : Int} (hi : id < 0) : f id = none := by
 cases hf : f id with
 | none => rfl
 | some n => have := h.idn id n hf;omega
theorem Wf.big {next : Int} {f : Nds} (h : Wf next f) {id : Int} (hi : next ≤ id) : f id = none := by
 cases hf : f id with
 | none => rfl
 | some n => have := h.idn id n hf;omega
theorem Wf.par {next : Int} {f : Nds} (h : Wf next f) {id : Int} {n : NodeP} (hn : f id = some n) : (n.par = -1 ∧ f n.par = none) ∨ (0 ≤ n.par ∧ ∃ p, f n.par = some p ∧ id ∈ p.kids) := by
 rcases h.up id n hn with h1 | ⟨p, h1, h2⟩
 ·exact .inl ⟨h1, h.neg (by omega)⟩
 ·exact .inr ⟨(h.idn _ _ h1).2.1, p, h1, h2⟩
inductive Win (f : Nds) (b : Int) : Int → Prop
 | refl {n : NodeP} (h : f b = some n) : Win f b b
 | step {a : Int} {n : NodeP} (h : f a = some n) (hp : Win f b n.par) : Win f b a
theorem Win.has {f : Nds} {b a : Int} (h : Win f b a) : ∃ n, f a = some n := by cases h with | refl h => exact ⟨_, h⟩ | step h _ => exact ⟨_, h⟩
theorem Win.top {f : Nds} {b a : Int} (h : Win f b a) : ∃ n, f b = some n := by
 induction h with
 | refl h => exact ⟨_, h⟩
 | step _ _ ih => exact ih
theorem Win.trans {f : Nds} {a b c : Int} (h : Win f b a) (k : Win f c b) : Win f c a := by
 induction h with
 | refl _ => exact k
 | step h1 _ ih => exact .step h1 ih
theorem win_iff {f : Nds} {a b : Int} {n : NodeP} (h : f a = some n) : Win f b a ↔ a = b ∨ Win f b n.par := by
 constructor
 ·intro hw
  cases hw with
  | refl _ => exact .inl rfl
  | step h1 h2 => rw [h] at h1;cases h1;exact .inr h2
 ·rintro (rfl | hw)
  ·exact .refl h
  ·exact .step h hw
theorem win_none {f : Nds} {a b : Int} (h : f a = none) : ¬ Win f b a := fun hw => by obtain ⟨n, hn⟩ := hw.has; rw [h] at hn; cases hn
section
open Classical
noncomputable def foldW {β : Type} (g : NodeP → List β → β) (z : β) (f : Nds) (hw : WellFounded (kidOf f)) : Int → β :=
 hw.fix (fun id F => match hf : f id with
  | none => z
  | some n => g n (n.kids.attach.map (fun k => F k.1 ⟨n, hf, k.2⟩)))
noncomputable def foldD {β : Type} (g : NodeP → List β → β) (z : β) (f : Nds) : Int → β := if hw : WellFounded (kidOf f) then foldW g z f hw else fun _ => z
theorem fold_some {β : Type} {g : NodeP → List β → β} {z : β} {f : Nds} (hw : ∀ id, _root_.Acc (kidOf f) id) {id : Int} {n : NodeP} (h : f id = some n) : foldD g z f id = g n (n.kids.map (foldD g z f)) := by
 have hw' : WellFounded (kidOf f) := ⟨hw⟩
 unfold foldD
 rw [dif_pos hw']
 have e : foldW g z f hw' id = g n (n.kids.attach.map (fun k => foldW g z f hw' k.1)) := by
  conv => lhs;unfold foldW
  rw [WellFounded.fix_eq]
  split
  ·rename_i h1;rw [h] at h1;cases h1
  ·rename_i m h1
   have : m = n := by rw [h] at h1;cases h1;rfl
   subst this
   rfl
 rw [e]
 congr 1
 rw [List.attach_map_val (l := n.kids) (f := foldW g z f hw')]
theorem fold_none {β : Type} {g : NodeP → List β → β} {z : β} {f : Nds} {id : Int} (h : f id = none) : foldD g z f id = z := by
 unfold foldD
 split
 ·rename_i hw
  unfold foldW
  rw [WellFounded.fix_eq]
  split
  ·rfl
  ·rename_i h1;rw [h] at h1;cases h1
 ·rfl
end
noncomputable def preN (f : Nds) : Int → List Int := foldD (fun n r => n.id :: r.flatten) [] f
noncomputable def depU (f : Nds) (hw : WellFounded (parOf f)) : Int → Nat :=
 hw.fix (fun id F => match hf : f id with
  | none => 0
  | some n => F n.par ⟨n, hf, rfl⟩ + 1)
theorem depU_some {f : Nds} (hw : WellFounded (parOf f)) {id : Int} {n : NodeP} (h : f id = some n) : depU f hw id = depU f hw n.par + 1 := by
 conv => lhs;unfold depU
 rw [WellFounded.fix_eq]
 split
 ·rename_i h1;rw [h] at h1;cases h1
 ·rename_i m h1
  have : m = n := by rw [h] at h1;cases h1;rfl
  subst this
  rfl
theorem acc_mono {α : Type} {r s : α → α → Prop} (h : ∀ a b, r a b → s a b) {x : α} (hx : _root_.Acc s x) : _root_.Acc r x := by
 induction hx with
 | intro x _ ih => exact .intro x fun y hy => ih y (h y x hy)
end Go.Proofs.YtbpkddpkcnlmhaaGreat
namespace Go.Proofs.YtbpkddpkcnlmhaaGreat
variable {next : Int} {f f' : Nds}
abbrev shN (n : NodeP) : Int × Int × Int × List Int := (n.id, n.kind, n.par, n.kids)
theorem shN_some (h : ∀ i, (f' i).map shN = (f i).map shN) {i : Int} {m : NodeP} (hm : f' i = some m) : ∃ n, f i = some n ∧ n.id = m.id ∧ n.kind = m.kind ∧ n.par = m.par ∧ n.kids = m.kids := by
 have := h i
 rw [hm] at this
 cases hf : f i with
 | none => rw [hf] at this;cases this
 | some n =>
  rw [hf] at this
  simp only [Option.map_some, Option.some.injEq, Prod.mk.injEq] at this
  exact ⟨n, rfl, this.1.symm, this.2.1.symm, this.2.2.1.symm, this.2.2.2.symm⟩
theorem Wf.same (h : Wf next f) (hf : ∀ i, (f' i).map shN = (f i).map shN) : Wf next f' where
 nx := h.nx
 idn i m hm := by
  obtain ⟨n, hn, e, -⟩ := shN_some hf hm
  have := h.idn i n hn
  omega
 root := by
  obtain ⟨n, hn, h1, h2⟩ := h.root
  obtain ⟨m, hm, -, e1, e2, -⟩ := shN_some (fun i => (hf i).symm) hn
  exact ⟨m, hm, by omega, by omega⟩
 knd i m hm := by
  obtain ⟨n, hn, -, e, -⟩ := shN_some hf hm
  have := h.knd i n hn
  omega
 down i m hm k hk := by
  obtain ⟨n, hn, -, -, -, e⟩ := shN_some hf hm
  obtain ⟨c, hc, hp⟩ := h.down i n hn k (by rw [e];exact hk)
  obtain ⟨d, hd, -, -, e2, -⟩ := shN_some (fun i => (hf i).symm) hc
  exact ⟨d, hd, by omega⟩
 up i m hm := by
  obtain ⟨n, hn, -, -, e, -⟩ := shN_some hf hm
  rcases h.up i n hn with h1 | ⟨p, h1, h2⟩
  ·exact .inl (by omega)
  ·obtain ⟨q, hq, -, -, -, e2⟩ := shN_some (fun i => (hf i).symm) h1
   exact .inr ⟨q, by rw [← e];exact hq, by rw [e2];exact h2⟩
 nod i m hm := by
  obtain ⟨n, hn, -, -, -, e⟩ := shN_some hf hm
  rw [← e];exact h.nod i n hn
 accD i := acc_mono (fun a b ⟨m, hm, ha⟩ => by
  obtain ⟨n, hn, -, -, -, e⟩ := shN_some hf hm
  exact ⟨n, hn, by rw [e];exact ha⟩) (h.accD i)
 accU i := acc_mono (fun a b ⟨m, hm, ha⟩ => by
  obtain ⟨n, hn, -, -, e, -⟩ := shN_some hf hm
  exact ⟨n, hn, by omega⟩) (h.accU i)
theorem Wf.add (h : Wf next f) {n : NodeP} (h1 : n.id = next) (h2 : n.kids = []) (h3 : n.par = -1) (h4 : n.kind = 1 ∨ n.kind = 2) (hf : ∀ i, f' i = if i = next then some n else f i) : Wf (next + 1) f' := by
 have hnx := h.nx
 have hold : ∀ {i m}, f i = some m → f' i = some m := fun {i m} hm => by
  rw [hf, if_neg (fun e => by have := h.idn i m hm;omega)];exact hm
 have hcase : ∀ {i m}, f' i = some m → (i = next ∧ m = n) ∨ f i = some m := fun {i m} hm => by
  rw [hf] at hm
  split at hm
  ·cases hm;rename_i e;exact .inl ⟨e, rfl⟩
  ·exact .inr hm
 have hneg : f' (-1) = none := by rw [hf, if_neg (by omega)];exact h.neg (by omega)
 refine ⟨by omega, fun i m hm => ?_, ?_, fun i m hm => ?_, fun i m hm k hk => ?_, fun i m hm => ?_, fun i m hm => ?_, fun i => ?_, fun i => ?_⟩
 ·rcases hcase hm with ⟨rfl, rfl⟩ | hm
  ·omega
  ·have := h.idn i m hm;omega
 ·obtain ⟨r, hr, k1, k2⟩ := h.root
  exact ⟨r, hold hr, k1, k2⟩
 ·rcases hcase hm with ⟨rfl, rfl⟩ | hm
  ·exact h4
  ·exact h.knd i m hm
 ·rcases hcase hm with ⟨rfl, rfl⟩ | hm
  ·rw [h2] at hk;cases hk
  ·obtain ⟨c, hc, hp⟩ := h.down i m hm k hk
   exact ⟨c, hold hc, hp⟩
 ·rcases hcase hm with ⟨rfl, rfl⟩ | hm
  ·exact .inl h3
  ·rcases h.up i m hm with k1 | ⟨p, k1, k2⟩
   ·exact .inl k1
   ·exact .inr ⟨p, hold k1, k2⟩
 ·rcases hcase hm with ⟨rfl, rfl⟩ | hm
  ·rw [h2];exact List.nodup_nil
  ·exact h.nod i m hm
 ·refine acc_mono (fun a b ⟨m, hm, ha⟩ => ?_) (h.accD i)
  rcases hcase hm with ⟨rfl, rfl⟩ | hm
  ·rw [h2] at ha;cases ha
  ·exact ⟨m, hm, ha⟩
 ·have hn1 : _root_.Acc (parOf f') (-1) := .intro _ fun y ⟨m, hm, _⟩ => by rw [hneg] at hm;cases hm
  have hold' : ∀ x, x ≠ next → _root_.Acc (parOf f') x := fun x => by
   induction h.accU x with
   | intro x _ ih =>
    intro hx
    refine .intro x fun y ⟨m, hm, hp⟩ => ?_
    rcases hcase hm with ⟨rfl, rfl⟩ | hm
    ·exact absurd rfl hx
    ·by_cases hy : y = next
     ·rcases h.up x m hm with k1 | ⟨p, k1, k2⟩
      ·omega
      ·have := h.idn _ _ k1;omega
     ·exact ih y ⟨m, hm, hp⟩ hy
  by_cases hi : i = next
  ·refine .intro i fun y ⟨m, hm, hp⟩ => ?_
   rcases hcase hm with ⟨-, rfl⟩ | hm
   ·rw [h3] at hp;rw [← hp];exact hn1
   ·have := h.idn _ _ hm;omega
  ·exact hold' i hi
theorem Wf.kids (h : Wf next f) {p : NodeP} {pid : Int} {ks : List Int} (hp : f pid = some p) (hks : ∀ x, x ∈ ks ↔ x ∈ p.kids) (hnd : ks.Nodup) (hf : ∀ i, f' i = if i = pid then some { p with kids := ks } else f i) : Wf next f' := by
 have hcase : ∀ {i m}, f' i = some m → ∃ n, f i = some n ∧ n.id = m.id ∧ n.kind = m.kind ∧ n.par = m.par ∧ (∀ x, x ∈ m.kids ↔ x ∈ n.kids) ∧ m.kids.Nodup := fun {i m} hm => by
  rw [hf] at hm
  split at hm
  ·rename_i e;cases hm;subst e;exact ⟨p, hp, rfl, rfl, rfl, hks, hnd⟩
  ·exact ⟨m, hm, rfl, rfl, rfl, fun _ => Iff.rfl, h.nod _ _ hm⟩
 have hback : ∀ {i n}, f i = some n → ∃ m, f' i = some m ∧ n.id = m.id ∧ n.kind = m.kind ∧ n.par = m.par ∧ (∀ x, x ∈ m.kids ↔ x ∈ n.kids) := fun {i n} hn => by
  rw [hf]
  by_cases e : i = pid
  ·subst e;rw [hp] at hn;cases hn;rw [if_pos rfl];exact ⟨_, rfl, rfl, rfl, rfl, hks⟩
  ·rw [if_neg e];exact ⟨n, hn, rfl, rfl, rfl, fun _ => Iff.rfl⟩
 refine ⟨h.nx, fun i m hm => ?_, ?_, fun i m hm => ?_, fun i m hm k hk => ?_, fun i m hm => ?_, fun i m hm => ?_, fun i => ?_, fun i => ?_⟩
 ·obtain ⟨n, hn, e, -⟩ := hcase hm
  have := h.idn i n hn
  omega
 ·obtain ⟨r, hr, k1, k2⟩ := h.root
  obtain ⟨m, hm, -, e1, e2, -⟩ := hback hr
  exact ⟨m, hm, by omega, by omega⟩
 ·obtain ⟨n, hn, -, e, -⟩ := hcase hm
  have := h.knd i n hn
  omega
 ·obtain ⟨n, hn, -, -, -, e, -⟩ := hcase hm
  obtain ⟨c, hc, hp⟩ := h.down i n hn k ((e k).1 hk)
  obtain ⟨d, hd, -, -, e2, -⟩ := hback hc
  exact ⟨d, hd, by omega⟩
 ·obtain ⟨n, hn, -, -, e, -⟩ := hcase hm
  rcases h.up i n hn with h1 | ⟨q, h1, h2⟩
  ·exact .inl (by omega)
  ·obtain ⟨r, hr, -, -, -, e2⟩ := hback h1
   exact .inr ⟨r, by rw [← e];exact hr, (e2 i).2 h2⟩
 ·obtain ⟨n, hn, -, -, -, -, e⟩ := hcase hm
  exact e
 ·refine acc_mono (fun a b ⟨m, hm, ha⟩ => ?_) (h.accD i)
  obtain ⟨n, hn, -, -, -, e, -⟩ := hcase hm
  exact ⟨n, hn, (e a).1 ha⟩
 ·refine acc_mono (fun a b ⟨m, hm, ha⟩ => ?_) (h.accU i)
  obtain ⟨n, hn, -, -, e, -⟩ := hcase hm
  exact ⟨n, hn, by omega⟩
theorem Wf.ins (h : Wf next f) {p n : NodeP} {pid id : Int} {ks : List Int} (hp : f pid = some p) (hn : f id = some n) (h0 : id ≠ 0) (hl : n.par = -1) (hw : ¬ Win f id pid)
  (hks : ∀ x, x ∈ ks ↔ x = id ∨ x ∈ p.kids) (hnd : ks.Nodup) (hf : ∀ i, f' i = if i = id then some { n with par := pid } else if i = pid then some { p with kids := ks } else f i) : Wf next f' := by
 have hne : pid ≠ id := fun e => hw (by rw [e];exact .refl hn)
 have hp0 := h.idn pid p hp
 have hn0 := h.idn id n hn
 have fid : f' id = some { n with par := pid } := by rw [hf, if_pos rfl]
 have fpid : f' pid = some { p with kids := ks } := by rw [hf, if_neg hne, if_pos rfl]
 have fo : ∀ {i}, i ≠ id → i ≠ pid → f' i = f i := fun {i} h1 h2 => by rw [hf, if_neg h1, if_neg h2]
 -- what becomes of a node
 have hcase : ∀ {i m}, f' i = some m → ∃ m0, f i = some m0 ∧ m0.id = m.id ∧ m0.kind = m.kind ∧ (i ≠ id → m0.par = m.par) ∧ (i ≠ pid → m0.kids = m.kids) := fun {i m} hm => by
  by_cases h1 : i = id
  ·subst h1;rw [fid] at hm;cases hm;exact ⟨n, hn, rfl, rfl, fun e => absurd rfl e, fun _ => rfl⟩
  ·by_cases h2 : i = pid
   ·subst h2;rw [fpid] at hm;cases hm;exact ⟨p, hp, rfl, rfl, fun _ => rfl, fun e => absurd rfl e⟩
   ·rw [fo h1 h2] at hm;exact ⟨m, hm, rfl, rfl, fun _ => rfl, fun _ => rfl⟩
 have hback : ∀ {i m0}, f i = some m0 → ∃ m, f' i = some m ∧ (i ≠ id → m.par = m0.par) ∧ (∀ x ∈ m0.kids, x ∈ m.kids) ∧ m0.kind = m.kind := fun {i m0} hm => by
  by_cases h1 : i = id
  ·subst h1;rw [hn] at hm;cases hm;exact ⟨_, fid, fun e => absurd rfl e, fun _ h => h, rfl⟩
  ·by_cases h2 : i = pid
   ·subst h2;rw [hp] at hm;cases hm;exact ⟨_, fpid, fun _ => rfl, fun x hx => (hks x).2 (.inr hx), rfl⟩
   ·exact ⟨m0, by rw [fo h1 h2];exact hm, fun _ => rfl, fun _ h => h, rfl⟩
 have hpar : ∀ {i m0 k}, f i = some m0 → k ∈ m0.kids → k ≠ id := fun {i m0 k} hm hk e => by
  obtain ⟨c, hc, hp⟩ := h.down i m0 hm k hk
  subst e
  rw [hn] at hc
  cases hc
  have := h.idn i m0 hm
  omega
 refine ⟨h.nx, fun i m hm => ?_, ?_, fun i m hm => ?_, fun i m hm k hk => ?_, fun i m hm => ?_, fun i m hm => ?_, ?_, ?_⟩
 ·obtain ⟨m0, k1, k2, -⟩ := hcase hm
  have := h.idn i m0 k1
  omega
 ·obtain ⟨r, hr, k1, k2⟩ := h.root
  obtain ⟨m, hm, e, -, e2⟩ := hback hr
  have := e (Ne.symm h0)
  exact ⟨m, hm, by omega, by omega⟩
 ·obtain ⟨m0, k1, -, k2, -⟩ := hcase hm
  have := h.knd i m0 k1
  omega
 ·by_cases hi : i = pid
  ·subst hi
   rw [fpid] at hm
   cases hm
   rcases (hks k).1 hk with rfl | hk
   ·exact ⟨_, fid, rfl⟩
   ·obtain ⟨c, hc, e⟩ := h.down i p hp k hk
    obtain ⟨m, hm, e2, -⟩ := hback hc
    exact ⟨m, hm, by rw [e2 (hpar hp hk)];exact e⟩
  ·obtain ⟨m0, k1, -, -, -, k2⟩ := hcase hm
   rw [← k2 hi] at hk
   obtain ⟨c, hc, e⟩ := h.down i m0 k1 k hk
   obtain ⟨m, hm, e2, -⟩ := hback hc
   exact ⟨m, hm, by rw [e2 (hpar k1 hk)];exact e⟩
 ·by_cases hi : i = id
  ·subst hi
   rw [fid] at hm
   cases hm
   exact .inr ⟨_, fpid, (hks i).2 (.inl rfl)⟩
  ·obtain ⟨m0, k1, -, -, k2, -⟩ := hcase hm
   rw [← k2 hi]
   rcases h.up i m0 k1 with h1 | ⟨q, h1, h2⟩
   ·exact .inl h1
   ·obtain ⟨r, hr, -, e, -⟩ := hback h1
    exact .inr ⟨r, hr, e _ h2⟩
 ·by_cases hi : i = pid
  ·subst hi;rw [fpid] at hm;cases hm;exact hnd
  ·obtain ⟨m0, k1, -, -, -, k2⟩ := hcase hm
   rw [← k2 hi];exact h.nod i m0 k1
 ·have h1 : ∀ x, ¬ Win f x pid → _root_.Acc (kidOf f') x := fun x => by
   induction h.accD x with
   | intro x _ ih =>
    intro hx
    refine .intro x fun y ⟨m, hm, hy⟩ => ?_
    have hxp : x ≠ pid := fun e => hx (by rw [e];exact .refl hp)
    obtain ⟨m0, k1, -, -, -, k2⟩ := hcase hm
    rw [← k2 hxp] at hy
    refine ih y ⟨m0, k1, hy⟩ fun hyp => hx ?_
    obtain ⟨c, hc, e⟩ := h.down x m0 k1 y hy
    exact hyp.trans (.step hc (by rw [e];exact .refl k1))
  intro i
  induction h.accD i with
  | intro x _ ih =>
   refine .intro x fun y ⟨m, hm, hy⟩ => ?_
   by_cases hx : x = pid
   ·subst hx
    rw [fpid] at hm
    cases hm
    rcases (hks y).1 hy with rfl | hy
    ·exact h1 _ hw
    ·exact ih y ⟨p, hp, hy⟩
   ·obtain ⟨m0, k1, -, -, -, k2⟩ := hcase hm
    rw [← k2 hx] at hy
    exact ih y ⟨m0, k1, hy⟩
 ·have h1 : ∀ x, ¬ Win f id x → _root_.Acc (parOf f') x := fun x => by
   induction h.accU x with
   | intro x _ ih =>
    intro hx
    refine .intro x fun y ⟨m, hm, hy⟩ => ?_
    have hxp : x ≠ id := fun e => hx (by rw [e];exact .refl hn)
    obtain ⟨m0, k1, -, -, k2, -⟩ := hcase hm
    rw [← k2 hxp] at hy
    refine ih y ⟨m0, k1, hy⟩ fun hyp => hx (.step k1 (by rw [hy];exact hyp))
  intro i
  induction h.accU i with
  | intro x _ ih =>
   refine .intro x fun y ⟨m, hm, hy⟩ => ?_
   by_cases hx : x = id
   ·subst hx
    rw [fid] at hm
    cases hm
    simp only at hy
    subst hy
    exact h1 _ hw
   ·obtain ⟨m0, k1, -, -, k2, -⟩ := hcase hm
    rw [← k2 hx] at hy
    exact ih y ⟨m0, k1, hy⟩
def cutK (id : Int) (n : NodeP) : NodeP := { n with kids := n.kids.filter (fun x => decide (x ≠ id)) }
def cutN (f : Nds) (id : Int) : Nds := fun i => (f i).map (cutK id)
end Go.Proofs.YtbpkddpkcnlmhaaGreat
namespace Go.Proofs.YtbpkddpkcnlmhaaGreat
open Go.RowKit
section
variable {α : Type} [Enc α]
theorem enc_at : ∀ (xs : List α) (j : Nat) (u : Value), (enc xs)[j]? = some u → ∃ i r x, j = i * (Enc.k α + 1) + r ∧ r < Enc.k α + 1 ∧ xs[i]? = some x ∧ (Enc.f x)[r]? = some u
 | [], j, u, h => by simp [enc] at h
 | x :: xs, j, u, h => by
  rw [enc_cons] at h
  by_cases hj : j < Enc.k α + 1
  ·rw [List.getElem?_append_left (by rw [Enc.len];exact hj)] at h
   exact ⟨0, j, x, by simp, hj, rfl, h⟩
  ·rw [List.getElem?_append_right (by rw [Enc.len];omega), Enc.len] at h
   obtain ⟨i, r, y, h1, h2, h3, h4⟩ := enc_at xs _ u h
   exact ⟨i + 1, r, y, by rw [Nat.add_mul];omega, h2, h3, h4⟩
theorem choose_list {β : Type} {p : Nat → β → Prop} : ∀ n, (∀ i, i < n → ∃ x, p i x) → ∃ xs : List β, xs.length = n ∧ ∀ i x, xs[i]? = some x → p i x
 | 0, _ => ⟨[], rfl, fun i x h => by simp at h⟩
 | n + 1, h => by
  obtain ⟨xs, h1, h2⟩ := choose_list n (fun i hi => h i (by omega))
  obtain ⟨x, hx⟩ := h n (by omega)
  refine ⟨xs ++ [x], by simp [h1], fun i y hy => ?_⟩
  by_cases hi : i < xs.length
  ·rw [List.getElem?_append_left hi] at hy;exact h2 i y hy
  ·rw [List.getElem?_append_right (by omega)] at hy
   have : i - xs.length = 0 := by
    rcases Nat.eq_zero_or_pos (i - xs.length) with h | h
    ·exact h
    ·rw [List.getElem?_eq_none (by simp;omega)] at hy;cases hy
   rw [this] at hy
   simp at hy
   subst hy
   have : i = n := by omega
   subst this
   exact hx
theorem SlT.of_rdg (Q : α → Prop) {P : Program} {W : World} {D : Nat} {T e : TypeId} {cs : List Value} (h : Rdg P W (D + 1) T cs) (hT : elOf P T = some e) (hk : szOf P e = some (Enc.k α + 1))
  (hel : ∀ us, us.length = Enc.k α + 1 → Rdg P W D e us → ∃ x : α, Enc.f x = us ∧ Q x) : ∃ v, ∃ xs : List α, cs = [v] ∧ SlT xs v W ∧ ∀ x ∈ xs, Q x := by
 unfold Rdg at h
 rw [elOf_und hT] at h
 obtain ⟨v, hcs, h⟩ := h
 refine ⟨v, ?_⟩
 rcases h with rfl | ⟨a, len, cap, rfl, hlc, hcap, hget⟩
 ·exact ⟨[], hcs, SlT.nil W, fun x hx => by cases hx⟩
 ·rw [cellsOf_sz hk] at hget
  obtain ⟨xs, hxl, hxs⟩ := choose_list (β := α) (p := fun i x => (∀ j u, (Enc.f x)[j]? = some u → W.cell? ((a.add (i * (Enc.k α + 1))).add j) = some u) ∧ Q x) len (fun i hi => by
   obtain ⟨us, h1, h2, h3⟩ := hget i hi
   obtain ⟨x, hx, hq⟩ := hel us h1 h3
   exact ⟨x, by rw [hx];exact h2, hq⟩)
  refine ⟨xs, hcs, ⟨by rw [enc_len], by rw [hxl];omega, .inr ⟨a, cap, by rw [hxl], by rw [hxl];exact hlc, hcap, fun j u hj => ?_⟩⟩, fun x hx => ?_⟩
  ·obtain ⟨i, r, x, rfl, hr, hi, hu⟩ := enc_at xs j u hj
   have hc := (hxs i x hi).1 r u hu
   have hsp : a.spot = none := by
    have h0 : 0 < xs.length := by have := lt_of_get hi;omega
    have hx0 : xs[0]? = some xs[0] := List.getElem?_eq_getElem h0
    have hf : ∃ u0, (Enc.f xs[0])[0]? = some u0 := ⟨_, List.getElem?_eq_getElem (by rw [Enc.len];omega)⟩
    obtain ⟨u0, hu0⟩ := hf
    have := (hxs 0 _ hx0).1 0 u0 hu0
    rw [Nat.zero_mul] at this
    simp only [Addr.add, if_true] at this
    exact World.cell?_spot this
   refine ⟨hsp, ?_⟩
   obtain ⟨b, o, sp⟩ := a
   simp only at hsp
   subst hsp
   rw [addr_add, addr_add] at hc
   rw [Nat.add_assoc] at hc
   exact hc
  ·obtain ⟨i, hi⟩ := List.getElem?_of_mem hx
   exact (hxs i x hi).2
end
theorem rdg_int {P : Program} {W : World} {D : Nat} {T : TypeId} {us : List Value} {k : IntKind} (hT : P.underlying T = some (.int k)) (h : Rdg P W (D + 1) T us) : ∃ n, us = [.int k n] ∧ k.min ≤ n ∧ n ≤ k.max := by
 unfold Rdg at h;rw [hT] at h;exact h
end Go.Proofs.YtbpkddpkcnlmhaaGreat
namespace Go.Proofs.YtbpkddpkcnlmhaaGreat
variable {df : List Deferred}
variable {rr : Option Nat}
open Go.RowKit
section
variable {P : Program} {Q : Exit → Act → World → Prop} {a : Act} {w w' : World} {w0 : Bs} {n : Nat} {l : List (Nat × Value)} {L L' : List HP}
 {dst : Option Nat} {R : Value → World → Prop} {ty : TypeId} {pos : String} {af : Array Edge} {g : Option (Nat × Bool)}
theorem sp_lss {x y : Operand} {t t' : TypeId} {k : IntKind} {p q : Int} (hk : Kn df n a l) (ht : p < q → R (.bool true) w) (hf : ¬ p < q → R (.bool false) w)
  (hx : ev l x = some (.int k p) := by rfl) (hy : ev l y = some (.int k q) := by rfl) : Gives P ⟨dst, .binOp .lss t x y t', ty, pos, af, g⟩ a w R := by
 by_cases h : p < q
 ·exact g_lss hk (by rw [decide_eq_true h];exact ht h) hx hy
 ·exact g_lss hk (by rw [decide_eq_false h];exact hf h) hx hy
theorem sp_leq {x y : Operand} {t t' : TypeId} {k : IntKind} {p q : Int} (hk : Kn df n a l) (ht : p ≤ q → R (.bool true) w) (hf : ¬ p ≤ q → R (.bool false) w)
  (hx : ev l x = some (.int k p) := by rfl) (hy : ev l y = some (.int k q) := by rfl) : Gives P ⟨dst, .binOp .leq t x y t', ty, pos, af, g⟩ a w R := by
 by_cases h : p ≤ q
 ·exact g_leq hk (by rw [decide_eq_true h];exact ht h) hx hy
 ·exact g_leq hk (by rw [decide_eq_false h];exact hf h) hx hy
theorem sp_gtr {x y : Operand} {t t' : TypeId} {k : IntKind} {p q : Int} (hk : Kn df n a l) (ht : q < p → R (.bool true) w) (hf : ¬ q < p → R (.bool false) w)
  (hx : ev l x = some (.int k p) := by rfl) (hy : ev l y = some (.int k q) := by rfl) : Gives P ⟨dst, .binOp .gtr t x y t', ty, pos, af, g⟩ a w R := by
 by_cases h : q < p
 ·exact g_gtr hk (by rw [decide_eq_true h];exact ht h) hx hy
 ·exact g_gtr hk (by rw [decide_eq_false h];exact hf h) hx hy
theorem sp_geq {x y : Operand} {t t' : TypeId} {k : IntKind} {p q : Int} (hk : Kn df n a l) (ht : q ≤ p → R (.bool true) w) (hf : ¬ q ≤ p → R (.bool false) w)
  (hx : ev l x = some (.int k p) := by rfl) (hy : ev l y = some (.int k q) := by rfl) : Gives P ⟨dst, .binOp .geq t x y t', ty, pos, af, g⟩ a w R := by
 by_cases h : q ≤ p
 ·exact g_geq hk (by rw [decide_eq_true h];exact ht h) hx hy
 ·exact g_geq hk (by rw [decide_eq_false h];exact hf h) hx hy
theorem sp_eqi {x y : Operand} {t t' : TypeId} {k : IntKind} {p q : Int} (hk : Kn df n a l) (ht : p = q → R (.bool true) w) (hf : ¬ p = q → R (.bool false) w)
  (hx : ev l x = some (.int k p) := by rfl) (hy : ev l y = some (.int k q) := by rfl) : Gives P ⟨dst, .binOp .eql t x y t', ty, pos, af, g⟩ a w R := by
 by_cases h : p = q
 ·exact g_eqi hk (by rw [decide_eq_true h];exact ht h) hx hy
 ·exact g_eqi hk (by rw [decide_eq_false h];exact hf h) hx hy
theorem sp_nei {x y : Operand} {t t' : TypeId} {k : IntKind} {p q : Int} (hk : Kn df n a l) (ht : p = q → R (.bool false) w) (hf : ¬ p = q → R (.bool true) w)
  (hx : ev l x = some (.int k p) := by rfl) (hy : ev l y = some (.int k q) := by rfl) : Gives P ⟨dst, .binOp .neq t x y t', ty, pos, af, g⟩ a w R := by
 by_cases h : p = q
 ·exact g_nei hk (by rw [decide_eq_true h];exact ht h) hx hy
 ·exact g_nei hk (by rw [decide_eq_false h];exact hf h) hx hy
variable {os : List Oper} {i : Nat} {o : Oper} {r : List Oper} {acc : List (Nat × Nat × HV)} {HR : List (Nat × ((Nat → Value) → Value → HP))} {FinE : List (Nat × Nat × HV) → List (Nat × ((Nat → Value) → Value → HP)) → List HP → Prop} {TK : List HP}
theorem obe_bool {b : Bool} (h : ∀ (us : Nat → Value) (a : Act) (w : World), Kn df n a (vwE acc l us (o.looksAt os.toArray)) → depE acc us w (o.looksAt os.toArray) → St w0 L w → Gives P o a w (fun v w' => v = .bool b ∧ St w [] w'))
  (ht : b = true → ObxE df P n os l w0 L FinE (i + 1) r (pushE o.dst i (.val (.bool true)) acc) HR TK) (hf : b = false → ObxE df P n os l w0 L FinE (i + 1) r (pushE o.dst i (.val (.bool false)) acc) HR TK)
  (hg : ∀ us, gdK os.toArray (vwE acc l us (o.looksAt os.toArray)) o.guard = some true := by intro us;rfl) : ObxE df P n os l w0 L FinE i (o :: r) acc HR TK := by
 cases b with
 | true => exact obe_val h (ht rfl) hg
 | false => exact obe_val h (hf rfl) hg
theorem obe_lss {p q : Int} (h : ∀ (us : Nat → Value) (a : Act) (w : World), Kn df n a (vwE acc l us (o.looksAt os.toArray)) → depE acc us w (o.looksAt os.toArray) → St w0 L w → Gives P o a w (fun v w' => v = .bool (decide (p < q)) ∧ St w [] w'))
  (ht : p < q → ObxE df P n os l w0 L FinE (i + 1) r (pushE o.dst i (.val (.bool true)) acc) HR TK) (hf : ¬ p < q → ObxE df P n os l w0 L FinE (i + 1) r (pushE o.dst i (.val (.bool false)) acc) HR TK)
  (hg : ∀ us, gdK os.toArray (vwE acc l us (o.looksAt os.toArray)) o.guard = some true := by intro us;rfl) : ObxE df P n os l w0 L FinE i (o :: r) acc HR TK :=
 obe_bool h (fun e => ht (of_decide_eq_true e)) (fun e => hf (of_decide_eq_false e)) hg
variable {α : Type} [Enc α]
theorem g_la1 {x : Operand} {T : TypeId} {v : Value} {i : Nat} {xs : List α} {u : Value} (hk : Kn df n a l) (h : R u w) (hT : aggOf P T = some false)
  (hx : ev l x = some (.pointer (some ⟨blk v, offs v + i * (Enc.k α + 1), none⟩)) := by rfl) (hs : SlT xs v w) (hi : i < xs.length) (hu : Enc.f xs[i] = [u] := by rfl) :
  Gives P ⟨dst, .load T x, ty, pos, af, g⟩ a w R := g_ldT1 hk h hT hx hs (List.getElem?_eq_getElem hi) hu
theorem g_laN {x : Operand} {T : TypeId} {v : Value} {i : Nat} {xs : List α} {us : List Value} (hk : Kn df n a l) (h : R (.agg us.toArray) w) (hT : aggOf P T = some true)
  (hx : ev l x = some (.pointer (some ⟨blk v, offs v + i * (Enc.k α + 1), none⟩)) := by rfl) (hs : SlT xs v w) (hi : i < xs.length) (hu : Enc.f xs[i] = us) (hz : szOf P T = some (Enc.k α + 1)) :
  Gives P ⟨dst, .load T x, ty, pos, af, g⟩ a w R := g_ldTN hk h hT hx hs (List.getElem?_eq_getElem hi) hu hz
theorem g_laF {x : Operand} {T : TypeId} {v : Value} {i f : Nat} {xs : List α} {u : Value} (hk : Kn df n a l) (h : R u w) (hT : aggOf P T = some false)
  (hx : ev l x = some (.pointer (some ⟨blk v, offs v + i * (Enc.k α + 1) + f, none⟩)) := by rfl) (hs : SlT xs v w) (hi : i < xs.length) (hu : (Enc.f xs[i])[f]? = some u := by rfl) :
  Gives P ⟨dst, .load T x, ty, pos, af, g⟩ a w R := g_ldTF hk h hT hx hs (List.getElem?_eq_getElem hi) hu
theorem g_laS {x : Operand} {T : TypeId} {v : Value} {i f k : Nat} {xs : List α} {us : List Value} (hk : Kn df n a l) (h : R (.agg us.toArray) w) (hT : aggOf P T = some true)
  (hx : ev l x = some (.pointer (some ⟨blk v, offs v + i * (Enc.k α + 1) + f, none⟩)) := by rfl) (hs : SlT xs v w) (hi : i < xs.length) (hz : szOf P T = some k) (hu : ((Enc.f xs[i]).drop f).take k = us := by rfl) (hl : us.length = k := by rfl) :
  Gives P ⟨dst, .load T x, ty, pos, af, g⟩ a w R := by
 have hc := (hs.get (List.getElem?_eq_getElem hi)).sub f k
 rw [hu] at hc
 exact g_loadN hk h hT hc (by rw [hl];exact hz) hx
theorem g_bs1I {T E : Nat} {q : List (Nat × Operand)} {z : Value} {m : Int} (hk : Kn df n a l) (hS : St w0 L w) (h : ∀ w' v, St w0 (OwT E [m] v :: L) w' → R v w')
  (hp : evP l q = some [(0, .int .i64 m)] := by rfl) (hT : elOf P T = some E) (hE : szOf P E = some 1) (hz : zeroOf P E = some z) :
  Gives P ⟨dst, .buildSlice T 1 q.toArray, ty, pos, af, g⟩ a w R := by
 have hE' : szOf P E = some (Enc.k Int + 1) := hE
 refine g_bsT (xs := [m]) (m := 0) hk hS h hp hT hE' hz ?_ rfl
 simp [bldP, enc, Enc.f, Enc.k, Value.cells, zerosL, splice];rfl
theorem g_app1 {α : Type} [Enc α] {x y : Operand} {t tx : TypeId} {E E' : Nat} {v y0 z : Value} {xs : List α} {e : α} {L'' : List HP} (hk : Kn df n a l) (hS : St w0 L w)
  (h : ∀ w' v', St w0 (OwT E (xs ++ [e]) v' :: L'') w' → R v' w')
  (hx : ev l x = some v := by rfl) (hy : ev l y = some y0 := by rfl)
  (hat : At (OwT E xs v) L L' := by (repeat (first | exact At.here | apply At.there)))
  (hT : elOf P t = some E) (hTx : elOf P tx = some E')
  (hat2 : At (OwT E' [e] y0) L' L'' := by (repeat (first | exact At.here | apply At.there)))
  (hE : szOf P E = some (Enc.k α + 1)) (hz : zeroOf P E = some z) (hzs : z.cells.size = Enc.k α + 1) {by_ : Nat} (hby : ((P.info? E).map (·.bytes)).getD 0 = by_) (hbytes : (xs.length + 1) * by_ ≤ 140737488355328) (h63 : xs.length + 1 ≤ 9223372036854775807) :
  Gives P ⟨dst, .call { callee := .builtin .append, args := #[x, y], argTypes := #[t, tx] }, ty, pos, af, g⟩ a w R :=
 g_appD hk hS h hx hy hat hT hTx hat2 hE hz hzs hby (by simpa using hbytes) (by simpa [maxLen] using h63)
theorem g_var1 {x : Operand} {T : TypeId} {b o : Nat} {vs : List Value} {T' : TypeId} {v : Value} (hk : Kn df n a l) (h : R v w) (hT : aggOf P T = some false)
  (hx : ev l x = some (.pointer (some ⟨b, o, none⟩)) := by rfl) (hb : (pts b vs T').rd w) (hv : vs[o]? = some v := by rfl) : Gives P ⟨dst, .load T x, ty, pos, af, g⟩ a w R :=
 g_load1 hk h hT (by rw [cell_of_row w b o _ T' _ (pts.block hb)];simpa using hv) hx
theorem g_varN {x : Operand} {T : TypeId} {b o k : Nat} {vs us : List Value} {T' : TypeId} (hk : Kn df n a l) (h : R (.agg us.toArray) w) (hT : aggOf P T = some true)
  (hx : ev l x = some (.pointer (some ⟨b, o, none⟩)) := by rfl) (hb : (pts b vs T').rd w) (hs : szOf P T = some k) (hv : (vs.drop o).take k = us := by rfl) (hl : us.length = k := by rfl) : Gives P ⟨dst, .load T x, ty, pos, af, g⟩ a w R := by
 have hc := Cells.of_block (pts.block hb) o k
 rw [hv] at hc
 exact g_loadN hk h hT hc (by rw [hl];exact hs) hx
theorem g_convU {x : Operand} {t t' : TypeId} {k' : IntKind} {p : Int} (hk : Kn df n a l) (h : R (.int .u64 p) w) (hx : ev l x = some (.int k' p) := by rfl) (ht : P.underlying t' = some (.int .u64)) {d : TypeDesc} (hs : P.underlying t = some d) (h0 : 0 ≤ p) (h1 : p ≤ 18446744073709551615) :
  Gives P ⟨dst, .convert t t' x, ty, pos, af, g⟩ a w R := g_convI hk (by rw [IntWalk.u64_in _ ⟨h0, h1⟩];exact h) hx ht hs
theorem g_convS {x : Operand} {t t' : TypeId} {k' : IntKind} {p : Int} (hk : Kn df n a l) (h : R (.int .i64 p) w) (hx : ev l x = some (.int k' p) := by rfl) (ht : P.underlying t' = some (.int .i64)) {d : TypeDesc} (hs : P.underlying t = some d) (h0 : -9223372036854775808 ≤ p) (h1 : p ≤ 9223372036854775807) :
  Gives P ⟨dst, .convert t t' x, ty, pos, af, g⟩ a w R := g_convI hk (by rw [IntWalk.i64_in _ ⟨h0, h1⟩];exact h) hx ht hs
theorem g_shr1 {x y : Operand} {t t' : TypeId} {k k' : IntKind} {p : Int} (hk : Kn df n a l) (h : R (.int k (p / 2)) w) (hx : ev l x = some (.int k p) := by rfl) (hy : ev l y = some (.int k' 1) := by rfl) (hm : 1 ≤ k.bits) :
  Gives P ⟨dst, .binOp .shr t x y t', ty, pos, af, g⟩ a w R :=
 g_shr (m := 1) hk (by rw [show (2 : Int) ^ 1 = 2 from rfl, Int.fdiv_eq_ediv_of_nonneg _ (by omega)];exact h) hx hy hm
theorem wp_while {ι : Type} {c : Code} {l0 : List (Nat × Value)} (V : ι → List (Nat × Value)) (Ls : ι → List HP) (F : ι → Prop) (μ : ι → Nat) (x0 : ι) (hk : Kn df n a l0) (hV : subK l0 (V x0)) (hS : St w0 (Ls x0) w) (hF : F x0)
  (step : ∀ (x : ι) (a : Act) (w : World), Kn df n a (V x ++ l0) → St w0 (Ls x) w → F x →
   c.wpIn (FR rr) 0 P (Exit.then (fun a' w' => ∃ x', μ x' < μ x ∧ Kn df n a' (V x' ++ l0) ∧ St w0 (Ls x') w' ∧ F x') Q) a w) : (Code.loop c).wpIn (FR rr) 0 P Q a w := by
 refine wp_loopN (fun k a w => ∃ x, k = μ x ∧ Kn df n a (V x ++ l0) ∧ St w0 (Ls x) w ∧ F x) (k := μ x0) ⟨x0, rfl, hk.app hV, hS, hF⟩ ?_
 rintro k a w ⟨x, rfl, hk, hS, hF⟩
 refine wpIn_mono (step x a w hk hS hF) ?_
 intro e a' w' hq
 cases e with
 | normal =>
  obtain ⟨x', hlt, h1, h2, h3⟩ := hq
  exact ⟨μ x', hlt, x', rfl, h1, h2, h3⟩
 | exit i => exact hq
 | goto i => exact hq
 | ret => exact hq
 | panic c => exact hq
 | outgrown => exact hq
theorem g_callvO {R' : Value → World → Prop} {x : Operand} {f : FuncId} {first cap : List Value} {xs : List Operand} {vs : List Value} {ts : Array TypeId} (hk : Kn df n a l)
  (hx : ev l x = some (.func (.func f) first.toArray cap.toArray) := by rfl) (hxs : evs l xs = some vs := by rfl) (hf : callable P f = true) (hc : Calls P f (first ++ vs ++ cap).toArray w (Ret R'))
  (h : ∀ v w', R' v w' → R v w') : Gives P ⟨dst, .call { callee := .value x, args := xs.toArray, argTypes := ts }, ty, pos, af, g⟩ a w R :=
 g_callv hk hf hc h hx hxs
theorem g_bs0 (α : Type) [Enc α] {T E k : Nat} (hS : St w0 L w) (h : ∀ w' v, St w0 (OwT E ([] : List α) v :: L) w' → R v w') (hT : elOf P T = some E) (hE : szOf P E = some k) :
  Gives P ⟨dst, .buildSlice T 0 #[], ty, pos, af, g⟩ a w R := by
 refine givesv (v := .slice (some ⟨w.heap.size, 0, none⟩) 0 0) (w' := w.alloc (.cells #[] E)) ?_ (h _ _ ?_)
 ·simp only [execOp, Instr.buildSlice, Sem.run_bind, run_underlying (elOf_und hT), Result.andThen_ok, szOf_run hE]
  have e : (Array.map (fun (_ : Nat) => (default : Value)) (Array.range 0)) = #[] := Array.eq_empty_of_size_eq_zero (by simp)
  simp [Instr.fill, newRow, e]
 ·have := (hS.alloc [] E).ptsOwn At.here (k := Enc.k α + 1) (n := 0) (by simp) (by simp [maxLen])
  unfold OwT
  exact this
theorem g_and {x y : Operand} {t t' : TypeId} {k : IntKind} {p q r : Int} (hk : Kn df n a l) (h : R (.int k r) w) (hb : bits .and k p q = r) (hx : ev l x = some (.int k p) := by rfl) (hy : ev l y = some (.int k q) := by rfl) :
  Gives P ⟨dst, .binOp .and t x y t', ty, pos, af, g⟩ a w R := by
 refine givesv (v := .int k r) ?_ h
 subst hb
 simp [execOp, hk.eval hx, hk.eval hy, eqGuard, binOp_and, intBits_and]
end
theorem shp_join : ∀ {k1 k2 : List SK} {us vs : List Value}, shp k1 us = true → shp k2 vs = true → shp (k1 ++ k2) (us ++ vs) = true
 | [], _, [], _, _, h => by simpa using h
 | [], _, _ :: _, _, h, _ => by simp [shp] at h
 | .int k :: ks, _, [], _, h, _ => by simp [shp] at h
 | .bool :: ks, _, [], _, h, _ => by simp [shp] at h
 | .str :: ks, _, [], _, h, _ => by simp [shp] at h
 | .int k :: ks, _, u :: us, vs, h, h2 => by
  cases u <;> simp [shp] at h
  simp [shp, h.1, shp_join h.2 h2]
 | .bool :: ks, _, u :: us, vs, h, h2 => by
  cases u <;> simp [shp] at h
  simp [shp, shp_join h h2]
 | .str :: ks, _, u :: us, vs, h, h2 => by
  cases u <;> simp [shp] at h
  simp [shp, shp_join h h2]
class EncI (α : Type) [Enc α] where
 ks : List SK
 kl : ks.length = Enc.k α + 1
 sh : ∀ x : α, shp ks (Enc.f x) = true
 inj : ∀ {x y : α}, Enc.f x = Enc.f y → x = y
 sur : ∀ us, shp ks us = true → ∃ x : α, Enc.f x = us
instance : EncI Int := ⟨[.int .i64], rfl, fun _ => rfl, fun h => by simpa [Enc.f] using h, fun us h => by obtain ⟨p, rfl⟩ := shp_int h; exact ⟨p, rfl⟩⟩
instance : EncI ByteArray := ⟨[.str], rfl, fun _ => rfl, fun h => by simpa [Enc.f] using h, fun us h => by obtain ⟨p, rfl⟩ := shp_str h; exact ⟨p, rfl⟩⟩
instance : EncI Bool := ⟨[.bool], rfl, fun _ => rfl, fun h => by simpa [Enc.f] using h, fun us h => by obtain ⟨p, rfl⟩ := shp_bool h; exact ⟨p, rfl⟩⟩
instance {α β : Type} [Enc α] [Enc β] [EncI α] [EncI β] : EncI (α × β) := ⟨EncI.ks α ++ EncI.ks β, by rw [List.length_append, EncI.kl, EncI.kl]; show _ = Enc.k α + Enc.k β + 1 + 1; omega, fun x => shp_join (EncI.sh x.1) (EncI.sh x.2), fun {x y} h => by
 have h := List.append_inj h (by rw [Enc.len, Enc.len])
 exact Prod.ext (EncI.inj h.1) (EncI.inj h.2), fun us h => by
 obtain ⟨h1, h2⟩ := shp_app h
 obtain ⟨x, hx⟩ := EncI.sur _ h1
 obtain ⟨y, hy⟩ := EncI.sur _ h2
 exact ⟨(x, y), by show Enc.f x ++ Enc.f y = us;rw [hx, hy, List.take_append_drop]⟩⟩
inductive ResV (P : Program) (l : List (Nat × Value)) (w : World) : ResultVar → Value → Prop
 | tmp {t : Nat} {v : Value} (h : lk l t = some v) : ResV P l w (.tmp t) v
 | cell {t T b o : Nat} {v : Value} (h : lk l t = some (.pointer (some ⟨b, o, none⟩))) (hv : (Instr.loadAt T (.pointer (some ⟨b, o, none⟩))).run P w = .ok v w) : ResV P l w (.cell t T) v
section
variable {P : Program} {a : Act} {w : World} {w0 : Bs} {n : Nat} {l : List (Nat × Value)} {L L' : List HP} {fn : Func} {R : Value → World → Prop}
def rvOf (tmps : Array Value) : ResultVar → Sem Value
 | .tmp t => pure (tmps.getD t undef)
 | .cell x t => do loadVar t (← asAddr (tmps.getD x undef))
theorem results_rv (fn : Func) (tmps : Array Value) : results fn tmps = (do
  let vs ← fn.results.mapM (rvOf tmps)
  pure (if h : vs.size = 1 then vs[0] else .tuple vs)) := rfl
theorem ResV.run {r : ResultVar} {v : Value} (hk : Kn df n a l) (h : ResV P l w r v) : (rvOf a.tmps r).run P w = .ok v w := by
 cases h with
 | tmp h =>
  have := hk.get _ _ h
  simp [rvOf]
  simpa using this
 | cell h hv =>
  simp only [Instr.loadAt, Instr.sureAddr] at hv
  have hp := hk.get _ _ h
  simp at hv
  unfold rvOf
  simp only [hp]
  simp [asAddr, hv]
theorem ResV.str {t T b o k : Nat} {vs us : List Value} {T' : TypeId} (hS : St w0 L w) (h : lk l t = some (.pointer (some ⟨b, o, none⟩)) := by rfl) (hat : At (pts b vs T') L L' := by (repeat (first | exact At.here | apply At.there))) (hT : aggOf P T = some true) (hs : szOf P T = some k)
  (hus : (vs.drop o).take k = us := by rfl) (hl : us.length = k := by rfl) : ResV P l w (.cell t T) (.agg us.toArray) :=
 .cell h (run_loadN hT (by rw [hl];exact hs) (by have hc := Cells.of_block (pts.block (hS.rd hat)) o k;rw [hus] at hc;exact hc))
theorem done1R {r : ResultVar} {v : Value} (hk : Kn [] n a l) (hr : fn.results = #[r]) (h1 : ResV P l w r v) (h : R v w) : Done P fn R .ret a w := by
 refine bodyPost_ret (v := v) ?_ hk.defers ⟨_, rfl, h⟩
 have e1 := h1.run hk
 rw [results_rv, hr]
 simp [e1]
theorem done2R {r r' : ResultVar} {v v' : Value} (hk : Kn [] n a l) (hr : fn.results = #[r, r']) (h1 : ResV P l w r v) (h2 : ResV P l w r' v') (h : R (.tuple #[v, v']) w) : Done P fn R .ret a w := by
 refine bodyPost_ret (v := .tuple #[v, v']) ?_ hk.defers ⟨_, rfl, h⟩
 have e1 := h1.run hk
 have e2 := h2.run hk
 rw [results_rv, hr]
 simp [e1, e2]
end
end Go.Proofs.YtbpkddpkcnlmhaaGreat
namespace Go.Proofs.YtbpkddpkcnlmhaaGreat
variable {df : List Deferred}
open Go.RowKit
theorem enc_ints : ∀ xs : List Int, enc xs = xs.map (Value.int .i64)
 | [] => rfl
 | x :: xs => by rw [enc_cons, enc_ints xs];rfl
theorem St.setCells {w0 : Bs} {L L' : List HP} {b : Nat} {T : TypeId} : ∀ (us : List Value) (o : Nat) (vs : List Value) (w : World), St w0 L w → At (pts b vs T) L L' → St w0 (pts b (splice vs o us) T :: L') (w.setCells b o us)
 | [], o, vs, w, hS, hat => by
  simp only [splice, World.setCells]
  exact hS.sub (.cons hat .refl)
 | u :: us, o, vs, w, hS, hat => by
  simp only [splice, World.setCells]
  exact St.setCells us (o + 1) _ _ (hS.setCell hat u) At.here
theorem St.drewN {w0 : Bs} {w : World} {L : List HP} (h : St w0 L w) : ∀ n, St w0 L (w.drewN n)
 | 0 => h
 | n + 1 => (St.drewN h n).drew
section
variable {α : Type} [Enc α]
theorem St.ownSet {w0 : Bs} {w : World} {L L' : List HP} {E : TypeId} {b off n cap : Nat} {xs ys : List α} (hS : St w0 L w) (hat : At (OwT E xs (.slice (some ⟨b, off, none⟩) n cap)) L L') (hn : n = xs.length) (hl : ys.length = xs.length) :
  St w0 (OwT E ys (.slice (some ⟨b, off, none⟩) n cap) :: L') (w.setCells b off (enc ys)) := by
 subst hn
 obtain ⟨vs, hP, hvl, hn, hcm, hcl, hvs⟩ := hS.ownPts hat
 have hle : xs.length * (Enc.k α + 1) ≤ cap * (Enc.k α + 1) := Nat.mul_le_mul_right _ hn
 have hfit : off + (enc ys).length ≤ vs.length := by rw [enc_len, hl];omega
 have h1 := St.setCells (enc ys) off vs w hP At.here
 refine h1.conv (As := [_]) At.here (fun F hF => ⟨F, fun _ h => h, Sep.one ⟨by rw [enc_len], by rw [hl];exact Nat.le_trans hn hcm, .inr ⟨b, off, cap, _, by rw [hl], hF.1, hF.2.1, hF.2.2, by rw [hl];exact hn, hcm, by rw [List.size_toArray, splice_len];exact hvl, fun j u hj => ?_⟩, fun c hc => (pts _ _ E).dom F _ c hF hc⟩⟩)
 have hj' : j < (enc ys).length := by
  rcases Nat.lt_or_ge j (enc ys).length with h | h
  ·exact h
  ·rw [List.getElem?_eq_none h] at hj;cases hj
 rw [List.getElem?_toArray, splice_get _ _ _ _ hfit, if_pos (by omega), show off + j - off = j by omega]
 exact hj
theorem St.ownCells {w0 : Bs} {w : World} {L L' : List HP} {E : TypeId} {xs : List α} {v : Value} (hS : St w0 L w) (hat : At (OwT E xs v) L L') (h0 : xs ≠ []) :
  ∃ b off cap, v = .slice (some ⟨b, off, none⟩) xs.length cap ∧ (∀ j u, (enc xs)[j]? = some u → w.cell? ⟨b, off + j, none⟩ = some u) ∧ ∀ j, w.frozen? ⟨b, j, none⟩ = false := by
 obtain ⟨F, h1, h2, h3, h4⟩ := hS.rd hat
 rcases h3 with ⟨_, hx⟩ | ⟨b, off, cap, cur, rfl, hF, hF', hb, hn, hc, hs, hcell⟩
 ·exact absurd (List.eq_nil_of_length_eq_zero hx) h0
 ·refine ⟨b, off, cap, rfl, fun j u hj => ?_, fun j => frozen_of_row w b j _ E hb⟩
  rw [cell_of_row w b (off + j) _ E _ hb]
  exact hcell j u hj
end
section
variable {P : Program} {a : Act} {w : World} {w0 : Bs} {n : Nat} {l : List (Nat × Value)} {L L' : List HP}
 {dst : Option Nat} {R : Value → World → Prop} {ty : TypeId} {pos : String} {af : Array Edge} {g : Option (Nat × Bool)}
theorem g_stI {x y : Operand} {T E : TypeId} {v : Value} {i : Nat} {xs : List Int} {z : Int} (hk : Kn df n a l) (hS : St w0 L w) (h : ∀ w', St w0 (OwT E (xs.set i z) v :: L') w' → R undef w')
  (hx : ev l x = some (.pointer (some ⟨blk v, offs v + i * (Enc.k Int + 1), none⟩)) := by rfl) (hy : ev l y = some (.int .i64 z) := by rfl) (hat : At (OwT E xs v) L L' := by (repeat (first | exact At.here | apply At.there)))
  (hsz : szOf P T = some 1) (hi : i < xs.length) : Gives P ⟨dst, .store T x y, ty, pos, af, g⟩ a w R :=
 g_stT hk hS h hx hy hat rfl hsz hi
end
end Go.Proofs.YtbpkddpkcnlmhaaGreat
