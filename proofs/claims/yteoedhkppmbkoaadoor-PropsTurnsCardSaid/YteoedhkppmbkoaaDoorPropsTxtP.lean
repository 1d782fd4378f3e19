/- Layer 4: maps of texts as maps of numbers: in plain words. -/
import Derived.Test.YteoedhkppmbkoaaDoorProps3
import Derived.Test.YteoedhkppmbkoaaDoorPropsBeg
namespace Go.Proofs.YteoedhkppmbkoaaDoor

theorem filter_map' {α β : Type} (g : α → β) (l : List α) (p : β → Bool) (q : α → Bool) (hp : ∀ x, p (g x) = q x) : (l.map g).filter p = (l.filter q).map g := by
  rw [List.filter_map]
  congr 2
  funext x
  exact hp x

section
variable {κ α β : Type} [Lin κ] [DecidableEq κ] (key : α → κ) (key' : β → κ) (g : α → β) (hg : ∀ x, key' (g x) = key x)
include hg
theorem put_map : ∀ (s : List α) (e : α), putF key' (s.map g) (g e) = (putF key s e).map g
  | [], e => by simp [putF]
  | x :: s, e => by
    have ih := put_map s e
    simp only [List.map_cons, putF, hg]
    split
    · simp
    · split
      · simp
      · simp [ih]
theorem snap_map (l : List α) : snapF key' (l.map g) = (snapF key l).map g := by
  unfold snapF
  have : ∀ (l : List α) (s : List α), (l.map g).foldl (putF key') (s.map g) = (l.foldl (putF key) s).map g := by
    intro l
    induction l with
    | nil => intro s; rfl
    | cons x l ih =>
      intro s
      rw [List.map_cons, List.foldl_cons, List.foldl_cons, put_map key key' g hg, ih]
  exact this l []
theorem last_map (l : List α) (k : κ) : lastF key' (l.map g) k = (lastF key l k).map g := by
  unfold lastF
  rw [← List.map_reverse, List.find?_map]
  congr 2
  funext x
  simp [hg]

end

def gTx (p : PrI) : PrS := (p.1, itoS p.2)
def txtF (l : List PrI) : List PrS := l.map gTx
theorem gTx_key (p : PrI) : nmS (gTx p) = nmI p := rfl
theorem gTx_inj {p q : PrI} (h : gTx p = gTx q) : p = q := by
  obtain ⟨a, x⟩ := p
  obtain ⟨c, y⟩ := q
  simp only [gTx, Prod.mk.injEq] at h
  exact Prod.ext h.1 (itoS_inj h.2)
theorem txt_inj {l m : List PrI} (h : txtF l = txtF m) : l = m := by
  unfold txtF at h
  exact (List.map_inj_right (fun _ _ h => gTx_inj h)).1 h
theorem txt_snap (l : List PrI) : snapF nmS (txtF l) = txtF (snapF nmI l) := snap_map nmI nmS gTx gTx_key l
theorem txt_last (l : List PrI) (k : ByteArray) : lastF nmS (txtF l) k = (lastF nmI l k).map gTx := last_map nmI nmS gTx gTx_key l k
theorem txt_put (m : List PrI) (p : PrI) : putF nmS (txtF m) (gTx p) = txtF (putF nmI m p) := put_map nmI nmS gTx gTx_key m p
theorem txt_drop (l : List PrI) (k : ByteArray) : dropS (txtF l) k = txtF (dropI l k) := by
  unfold dropS dropI
  rw [txt_snap]
  exact filter_map' gTx _ _ _ (fun x => rfl)
theorem txt_len (l : List PrI) : (txtF l).length = l.length := List.length_map _
def stT (s : SpI) : SpS := (s.1, s.2.1, if s.1 = true then ⟨#[]⟩ else itoS s.2.2)
theorem txt_turn1 (B A : List PrI) : turn1S (txtF B) (txtF A) = (turn1I B A).map stT := by
  unfold turn1S turn1I
  rw [show (txtF A).filter (fun p => (lastF nmS (txtF B) p.1).isNone) = txtF (A.filter (fun p => (lastF nmI B p.1).isNone)) from filter_map' gTx _ _ _ (fun x => by
    rw [show (gTx x).1 = x.1 from rfl, txt_last]
    cases lastF nmI B x.1 <;> rfl)]
  unfold txtF
  rw [List.map_map, List.map_map]
  rfl
theorem txt_turn2 (A B : List PrI) : turn2S (txtF A) (txtF B) = (turn2I A B).map stT := by
  unfold turn2S turn2I
  rw [show (txtF B).filter (fun p => decide (lastF nmS (txtF A) p.1 ≠ some p)) = txtF (B.filter (fun p => decide (lastF nmI A p.1 ≠ some p))) from filter_map' gTx _ _ _ (fun x => by
    rw [show (gTx x).1 = x.1 from rfl, txt_last]
    refine decide_eq_decide.2 (not_congr ?_)
    cases h : lastF nmI A x.1 with
    | none => simp
    | some q =>
      simp only [Option.map_some, Option.some.injEq]
      exact ⟨gTx_inj, fun e => by rw [e]⟩)]
  unfold txtF
  rw [List.map_map, List.map_map]
  rfl
theorem txt_turn (a b : List PrI) : turnS (txtF a) (txtF b) = (turnI a b).map stT := by
  unfold turnS turnI
  rw [txt_snap, txt_snap, txt_turn1, txt_turn2, List.map_append]
theorem txt_step (m : List PrI) (s : SpI) : stepS (txtF m) (stT s) = txtF (stepI m s) := by
  obtain ⟨d, k, x⟩ := s
  unfold stepS stepI
  cases d with
  | true => simp only [stT, if_true]; exact txt_drop m k
  | false =>
    simp only [stT, Bool.false_eq_true, if_false]
    exact txt_put m (k, x)
theorem txt_apply (a : List PrI) (t : List SpI) : applyS (txtF a) (t.map stT) = txtF (applyI a t) := by
  unfold applyS applyI
  rw [txt_snap]
  have : ∀ (t : List SpI) (m : List PrI), (t.map stT).foldl stepS (txtF m) = txtF (t.foldl stepI m) := by
    intro t
    induction t with
    | nil => intro m; rfl
    | cons s t ih => intro m; rw [List.map_cons, List.foldl_cons, List.foldl_cons, txt_step, ih]
  exact this t _
def InR (l : List PrI) : Prop := ∀ p ∈ l, -9223372036854775808 ≤ p.2 ∧ p.2 ≤ 9223372036854775807
theorem InR.few {l : List PrI} (h : InR l) (n : Nat) : InR (few04 l n) := fun p hp => by
  unfold few04 at hp
  obtain ⟨q, hq, rfl⟩ := List.mem_map.1 hp
  exact h q (List.mem_of_mem_take hq)
theorem put_sub {κ α : Type} [Lin κ] [DecidableEq κ] (key : α → κ) : ∀ (s : List α) (e x : α), x ∈ putF key s e → x = e ∨ x ∈ s
  | [], e, x, h => by simp [putF] at h; exact .inl h
  | y :: s, e, x, h => by
    simp only [putF] at h
    split at h
    · simpa using h
    · split at h
      · rcases List.mem_cons.1 h with h | h
        · exact .inl h
        · exact .inr (List.mem_cons_of_mem _ h)
      · rcases List.mem_cons.1 h with h | h
        · exact .inr (by rw [h]; exact List.mem_cons_self)
        · exact (put_sub key s e x h).imp (fun h => h) (List.mem_cons_of_mem _)
theorem InR.snap {l : List PrI} (h : InR l) : InR (snapF nmI l) := fun p hp => by
  have h1 := (snap_last nmI).1 hp
  exact h p (last_mem nmI h1)
theorem InR.sub {l m : List PrI} (h : InR l) (hs : ∀ x ∈ m, x ∈ l) : InR m := fun p hp => h p (hs p hp)
end Go.Proofs.YteoedhkppmbkoaaDoor
