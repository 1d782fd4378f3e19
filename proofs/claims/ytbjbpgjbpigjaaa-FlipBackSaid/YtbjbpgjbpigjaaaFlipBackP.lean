/- Layer 23: moved by its shift each lies where it was: the plain law. -/
import Derived.Test.YtbjbpgjbpigjaaaFlipApp
namespace Go.Proofs.Ytbjbpgjbpigjaaa

theorem last_put {M : List Ent} (h : Rises eid M) (p : Ent) (k : Int) : lastF eid (putF eid M p) k = if p.1 = k then some p else lastF eid M k := by
  rw [← snapA h, snap_last_eq, last_snoc]
theorem last_step {M : List Ent} (h : Rises eid M) (s : Sh) (k : Int) : lastF eid (stepSh M s) k = if k = s.1 then (lastF eid M k).map (movE · s) else lastF eid M k := by
  unfold stepSh
  cases hl : lastF eid M s.1 with
  | none =>
    by_cases e : k = s.1
    · subst e; rw [if_pos rfl]; simp only; rw [hl]; rfl
    · rw [if_neg e]
  | some x =>
    simp only
    rw [last_put h]
    by_cases e : k = s.1
    · subst e; rw [if_pos rfl, if_pos (show (movE x s).1 = s.1 from rfl), hl]; rfl
    · rw [if_neg (fun h => e h.symm), if_neg e]
theorem last_fold : ∀ (t : List Sh) (M : List Ent) (k : Int), Rises eid M → (t.map (·.1)).Nodup →
    (∀ s ∈ t, s.1 = k → lastF eid (t.foldl stepSh M) k = (lastF eid M k).map (movE · s)) ∧ ((∀ s ∈ t, s.1 ≠ k) → lastF eid (t.foldl stepSh M) k = lastF eid M k)
  | [], _, _, _, _ => ⟨fun s h => by simp at h, fun _ => rfl⟩
  | s :: t, M, k, hM, hn => by
    have hn' := List.nodup_cons.1 hn
    obtain ⟨ih1, ih2⟩ := last_fold t (stepSh M s) k (stepSh_rises hM s) hn'.2
    rw [last_step hM] at ih1 ih2
    rw [List.foldl_cons]
    refine ⟨fun r hr hrk => ?_, fun h => ?_⟩
    · rcases List.mem_cons.1 hr with e | hr
      · subst e
        have hno : ∀ q ∈ t, q.1 ≠ k := fun q hq e => hn'.1 (List.mem_map.2 ⟨q, hq, e.trans hrk.symm⟩)
        rw [ih2 hno, if_pos hrk.symm]
      · have hne : k ≠ s.1 := fun e => hn'.1 (List.mem_map.2 ⟨r, hr, hrk.trans e⟩)
        rw [ih1 r hr hrk, if_neg hne]
    · rw [ih2 (fun q hq => h q (by simp [hq])), if_neg (fun e => h s (by simp) e.symm)]

theorem shF_id {x y : List Ent} {id : Int} {s : Sh} (h : s ∈ shF x y id) : s.1 = id := by
  unfold shF at h
  split at h
  · split at h
    · rw [List.mem_singleton] at h; rw [h]
    · cases h
  · cases h
theorem shF_nodup (x y : List Ent) (id : Int) : ((shF x y id).map (·.1)).Nodup := by
  unfold shF
  split
  · split <;> simp
  · simp
theorem planF_mem {x y : List Ent} {K : List Int} : ∀ {n : Nat}, n ≤ K.length → ∀ s : Sh, s ∈ planF x y K n ↔ s.1 ∈ K.take n ∧ s ∈ shF x y s.1
  | 0, _, s => by simp [planF]
  | n + 1, h, s => by
    have hk : K[n]? = some (K[n]'(by omega)) := List.getElem?_eq_getElem (by omega)
    rw [planF_succ hk, List.mem_append, planF_mem (n := n) (by omega) s, take_snoc hk, List.mem_append, List.mem_singleton]
    by_cases hin : K[n]'(by omega) ∈ K.take n
    · rw [if_pos hin]
      constructor
      · rintro (⟨h1, h2⟩ | h1)
        · exact ⟨.inl h1, h2⟩
        · cases h1
      · rintro ⟨h1 | h1, h2⟩
        · exact .inl ⟨h1, h2⟩
        · exact .inl ⟨by rw [h1]; exact hin, h2⟩
    · rw [if_neg hin]
      constructor
      · rintro (⟨h1, h2⟩ | h1)
        · exact ⟨.inl h1, h2⟩
        · have := shF_id h1
          exact ⟨.inr this, by rw [this]; exact h1⟩
      · rintro ⟨h1 | h1, h2⟩
        · exact .inl ⟨h1, h2⟩
        · exact .inr (by rw [h1] at h2; exact h2)
theorem planF_nodup {x y : List Ent} {K : List Int} : ∀ {n : Nat}, n ≤ K.length → ((planF x y K n).map (·.1)).Nodup
  | 0, _ => by simp [planF]
  | n + 1, h => by
    have hk : K[n]? = some (K[n]'(by omega)) := List.getElem?_eq_getElem (by omega)
    rw [planF_succ hk, List.map_append, List.nodup_append]
    refine ⟨planF_nodup (n := n) (by omega), ?_, ?_⟩
    · split
      · simp
      · exact shF_nodup x y _
    · intro a ha b hb e
      subst e
      split at hb
      · simp at hb
      · rename_i hin
        obtain ⟨s, hs, rfl⟩ := List.mem_map.1 ha
        obtain ⟨r, hr, hrs⟩ := List.mem_map.1 hb
        have h1 := ((planF_mem (n := n) (by omega) s).1 hs).1
        have h2 := shF_id hr
        rw [← hrs, h2] at h1
        exact hin h1

def inR (e : Ent) : Prop := (-1000000000 ≤ e.2.1 ∧ e.2.1 ≤ 1000000000) ∧ (-1000000000 ≤ e.2.2.1 ∧ e.2.2.1 ≤ 1000000000)

/-- Of those that stayed: what the moved list has. -/
theorem back_last {x y : List Ent} {K : List Int} {id : Int} (hid : id ∈ K) : lastF eid (applySh y (planF x y K K.length)) id = (match shF x y id with | [] => lastF eid y id | s :: _ => (lastF eid y id).map (movE · s)) := by
  have hn := planF_nodup (x := x) (y := y) (K := K) (Nat.le_refl K.length)
  have hmem := fun s => planF_mem (x := x) (y := y) (K := K) (Nat.le_refl K.length) s
  obtain ⟨h1, h2⟩ := last_fold (planF x y K K.length) (snapF eid y) id (snap_rises eid y) hn
  rw [snap_last_eq] at h1 h2
  unfold applySh
  cases hs : shF x y id with
  | nil =>
    refine h2 (fun s hs' e => ?_)
    have := ((hmem s).1 hs').2
    rw [e, hs] at this
    cases this
  | cons s r =>
    have hm : s ∈ shF x y id := by rw [hs]; simp
    have he := shF_id hm
    exact h1 s ((hmem s).2 ⟨by rw [he, List.take_length]; exact hid, by rw [he]; exact hm⟩) he
theorem back_has {x y : List Ent} {K : List Int} {id : Int} (hid : id ∈ K) : (lastF eid (applySh y (planF x y K K.length)) id).isSome = (lastF eid y id).isSome := by
  rw [back_last hid]
  split
  · rfl
  · simp
theorem back_is {x y : List Ent} {K : List Int} {id : Int} {o n : Ent} (hx : ∀ e ∈ x, inR e) (hy : ∀ e ∈ y, inR e) (hid : id ∈ K) (ho : lastF eid x id = some o) (hn : lastF eid y id = some n) :
    getR (applySh y (planF x y K K.length)) id = (o.2.1, o.2.2.1, n.2.2.2.1, n.2.2.2.2) := by
  have h1 := hx o (last_mem eid ho)
  have h2 := hy n (last_mem eid hn)
  unfold inR at h1 h2
  obtain ⟨oi, oX, oY, oW, oH⟩ := o
  obtain ⟨ni, nX, nY, nW, nH⟩ := n
  simp only at h1 h2
  have e1 : subF oX nX = oX - nX := by unfold subF satF; omega
  have e2 : subF oY nY = oY - nY := by unfold subF satF; omega
  unfold getR
  rw [back_last hid]
  unfold shF
  rw [ho, hn]
  simp only [e1, e2]
  by_cases hz : oX - nX ≠ 0 ∨ oY - nY ≠ 0
  · rw [if_pos hz]
    simp only [Option.map_some, Option.getD_some, movE, Prod.mk.injEq, and_true]
    constructor
    · unfold addF satF; omega
    · unfold addF satF; omega
  · rw [if_neg hz]
    simp only [Option.getD_some, Prod.mk.injEq, and_true]
    constructor <;> omega
end Go.Proofs.Ytbjbpgjbpigjaaa
