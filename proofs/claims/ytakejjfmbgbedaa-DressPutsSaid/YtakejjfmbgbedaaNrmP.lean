/- Layer 7: views as they are shown, in plain words. -/
import Derived.Test.YtakejjfmbgbedaaKids7
namespace Go.Proofs.Ytakejjfmbgbedaa
open Go.RowKit

def Tree.kind : Tree → Int
  | .mk k _ _ _ _ _ _ _ _ => k
def Tree.text : Tree → ByteArray
  | .mk _ _ _ x _ _ _ _ _ => x
def Tree.plus : Tree → ByteArray → Tree
  | .mk k tag key text cl al sl o ks, x => .mk k tag key (text ++ x) cl al sl o ks
/-- A text that is none. -/
def Tree.void (t : Tree) : Prop := t.kind = 1 ∧ t.text = ⟨#[]⟩
instance (t : Tree) : Decidable t.void := by unfold Tree.void; exact inferInstance

/-- One more kid: two texts become one. -/
def mrgS (out : List Tree) (t : Tree) : List Tree :=
  match out.getLast? with
  | some u => if t.kind = 1 ∧ u.kind = 1 then out.dropLast ++ [u.plus t.text] else out ++ [t]
  | none => out ++ [t]
def mrg (l : List Tree) : List Tree := l.foldl mrgS []
theorem mrg_snoc (l : List Tree) (t : Tree) : mrg (l ++ [t]) = mrgS (mrg l) t := by simp [mrg]

noncomputable section
mutual
/-- As it is shown. -/
def nrm : Tree → Tree
  | .mk k tag key text cl al sl o kids => .mk k tag key text (clnC cl) (snapF nmS al) (snapF nmI sl) o (mrg (nrmL kids))
def nrmL : List Tree → List Tree
  | [] => []
  | t :: ts => if t.void then nrmL ts else nrm t :: nrmL ts
end
end
theorem nrmL_app : ∀ (ts us : List Tree), nrmL (ts ++ us) = nrmL ts ++ nrmL us
  | [], us => by simp [nrmL]
  | t :: ts, us => by
    rw [List.cons_append, nrmL, nrmL, nrmL_app ts us]
    split
    · rfl
    · rfl
theorem nrmL_snoc (ts : List Tree) (t : Tree) : nrmL (ts ++ [t]) = if t.void then nrmL ts else nrmL ts ++ [nrm t] := by
  rw [nrmL_app]
  by_cases h : t.void
  · simp [nrmL, h]
  · simp [nrmL, h]
theorem nrm_kind (t : Tree) : (nrm t).kind = t.kind := by cases t; simp [nrm, Tree.kind]
theorem nrm_text (t : Tree) : (nrm t).text = t.text := by cases t; simp [nrm, Tree.text]
theorem plus_kind (t : Tree) (x : ByteArray) : (t.plus x).kind = t.kind := by cases t; rfl
theorem plus_text (t : Tree) (x : ByteArray) : (t.plus x).text = t.text ++ x := by cases t; rfl
theorem nrmL_len (ts : List Tree) : (nrmL ts).length ≤ ts.length := by
  induction ts with
  | nil => simp [nrmL]
  | cons t ts ih =>
    rw [nrmL]
    split
    · simp; omega
    · simp; omega
/-- How long the texts are, of nodes in a row. -/
def txtL (l : List Tree) : Nat := l.foldl (fun n t => n + t.text.size) 0
theorem txtL_snoc (l : List Tree) (t : Tree) : txtL (l ++ [t]) = txtL l + t.text.size := by simp [txtL]
theorem txtL_mem : ∀ {l : List Tree} {t : Tree}, t ∈ l → t.text.size ≤ txtL l := by
  intro l t h
  have : ∀ r : List Tree, t ∈ r.reverse → t.text.size ≤ txtL r.reverse := by
    intro r
    induction r with
    | nil => intro h; simp at h
    | cons u r ih =>
      intro h
      rw [List.reverse_cons] at h ⊢
      rw [txtL_snoc]
      rcases List.mem_append.1 h with h | h
      · have := ih h; omega
      · rw [List.mem_singleton] at h; subst h; omega
  have h2 := this l.reverse (by simpa using h)
  simpa using h2
theorem mrgS_last {out : List Tree} {u t : Tree} (h : out.getLast? = some u) : mrgS out t = if t.kind = 1 ∧ u.kind = 1 then out.dropLast ++ [u.plus t.text] else out ++ [t] := by
  simp [mrgS, h]
theorem mrgS_txt (out : List Tree) (t : Tree) : txtL (mrgS out t) = txtL out + t.text.size := by
  unfold mrgS
  split
  · rename_i u hu
    split
    · rw [txtL_snoc, plus_text, ByteArray.size_append]
      have e : out = out.dropLast ++ [u] := by
        have := List.dropLast_concat_getLast (l := out) (by intro e; subst e; simp at hu)
        rw [List.getLast?_eq_some_getLast (by intro e; subst e; simp at hu)] at hu
        rw [Option.some.inj hu] at this
        exact this.symm
      have e2 : txtL out = txtL out.dropLast + u.text.size := by
        conv => lhs; rw [e]
        rw [txtL_snoc]
      omega
    · rw [txtL_snoc]
  · rw [txtL_snoc]
theorem mrg_txt (l : List Tree) : txtL (mrg l) = txtL l := by
  have : ∀ r : List Tree, txtL (mrg r.reverse) = txtL r.reverse := by
    intro r
    induction r with
    | nil => rfl
    | cons u r ih => rw [List.reverse_cons, mrg_snoc, mrgS_txt, ih, txtL_snoc]
  have := this l.reverse
  simpa using this
theorem mrgS_len (out : List Tree) (t : Tree) : (mrgS out t).length ≤ out.length + 1 := by
  unfold mrgS
  split
  · split
    · simp
    · simp
  · simp
theorem mrg_last {l : List Tree} {j : Nat} {t : Tree} (h : l[j]? = some t) : ∃ M u, mrg (l.take (j + 1)) = M ++ [u] ∧ u.kind = t.kind := by
  rw [take_snoc h, mrg_snoc]
  unfold mrgS
  split
  · rename_i u hu
    split
    · rename_i hc
      exact ⟨_, _, rfl, by rw [plus_kind, hc.1, hc.2]⟩
    · exact ⟨_, _, rfl, rfl⟩
  · exact ⟨_, _, rfl, rfl⟩
theorem mrgS_app {M : List Tree} {u t : Tree} : mrgS (M ++ [u]) t = if t.kind = 1 ∧ u.kind = 1 then M ++ [u.plus t.text] else M ++ [u] ++ [t] := by
  simp [mrgS]
theorem txtL_take (l : List Tree) (i : Nat) : txtL (l.take i) ≤ txtL l := by
  have : ∀ (r : List Tree) (l : List Tree), txtL l ≤ txtL (l ++ r) := by
    intro r
    induction r with
    | nil => intro l; simp
    | cons u r ih =>
      intro l
      have := ih (l ++ [u])
      rw [txtL_snoc, List.append_assoc, List.singleton_append] at this
      omega
  have := this (l.drop i) (l.take i)
  rwa [List.take_append_drop] at this
theorem mrg_len (l : List Tree) : (mrg l).length ≤ l.length := by
  have : ∀ r : List Tree, (mrg r.reverse).length ≤ r.length := by
    intro r
    induction r with
    | nil => simp [mrg]
    | cons u r ih =>
      rw [List.reverse_cons, mrg_snoc, List.length_cons]
      have := mrgS_len (mrg r.reverse) u
      omega
  have := this l.reverse
  simpa using this

/-- All parts of a tree are short, its texts at most X. -/
inductive Fit (X : Nat) : Tree → Prop
  | mk {k : Int} {tag key text : ByteArray} {cl : List ByteArray} {at_ : List (ByteArray × ByteArray)} {st : List (ByteArray × Int)} {o : Opt} {kids : List Tree}
    (h1 : cl.length ≤ 100) (h2 : at_.length ≤ 100) (h3 : st.length ≤ 100) (h4 : kids.length ≤ 1000) (h5 : text.size ≤ X) (h6 : ∀ t ∈ kids, Fit X t) : Fit X (.mk k tag key text cl at_ st o kids)
theorem Fit.fits {X : Nat} {t : Tree} (h : Fit X t) : Fits t := by
  induction h with
  | mk h1 h2 h3 h4 _ _ ih => exact .mk h1 h2 h3 h4 ih
theorem Fit.mono {X Y : Nat} {t : Tree} (h : Fit X t) (hXY : X ≤ Y) : Fit Y t := by
  induction h with
  | mk h1 h2 h3 h4 h5 _ ih => exact .mk h1 h2 h3 h4 (by omega) ih
theorem Fit.text {X : Nat} {t : Tree} (h : Fit X t) : t.text.size ≤ X := by cases h with | mk h1 h2 h3 h4 h5 _ => exact h5
theorem Fit.plus {X : Nat} {t : Tree} {x : ByteArray} (h : Fit X t) (hx : (t.plus x).text.size ≤ X) : Fit X (t.plus x) := by
  cases h with
  | mk h1 h2 h3 h4 h5 h6 => exact .mk h1 h2 h3 h4 hx h6
theorem last_split {α : Type} {l : List α} {u : α} (h : l.getLast? = some u) : l = l.dropLast ++ [u] := by
  have hne : l ≠ [] := by intro e; subst e; simp at h
  have := List.dropLast_concat_getLast hne
  rw [List.getLast?_eq_some_getLast hne] at h
  rw [Option.some.inj h] at this
  exact this.symm
theorem mrg_fit {X : Nat} (l : List Tree) (hl : ∀ t ∈ l, Fit X t) (hx : txtL l ≤ X) : ∀ u ∈ mrg l, Fit X u := by
  have : ∀ r : List Tree, (∀ t ∈ r, Fit X t) → txtL r.reverse ≤ X → ∀ u ∈ mrg r.reverse, Fit X u := by
    intro r
    induction r with
    | nil => intro _ _ u hu; simp [mrg] at hu
    | cons t r ih =>
      intro hr hx u hu
      have hs := mrgS_txt (mrg r.reverse) t
      have hT := mrg_txt r.reverse
      rw [List.reverse_cons, txtL_snoc] at hx
      have ih := ih (fun t ht => hr t (by simp [ht])) (by omega)
      have ht := hr t (by simp)
      rw [List.reverse_cons, mrg_snoc] at hu
      have hm := txtL_mem hu
      unfold mrgS at hu hs hm
      split at hu
      · rename_i u0 hu0
        have hu1 : u0 ∈ mrg r.reverse := by rw [last_split hu0]; simp
        split at hu
        · rename_i hc
          rcases List.mem_append.1 hu with h | h
          · exact ih u (by rw [last_split hu0]; simp [h])
          · rw [List.mem_singleton] at h
            subst h
            simp only [hu0, if_pos hc] at hm hs
            exact (ih u0 hu1).plus (by omega)
        · rcases List.mem_append.1 hu with h | h
          · exact ih u h
          · rw [List.mem_singleton] at h; subst h; exact ht
      · rcases List.mem_append.1 hu with h | h
        · exact ih u h
        · rw [List.mem_singleton] at h; subst h; exact ht
  have h := this l.reverse (by simpa using hl) (by simpa using hx)
  simpa using h
theorem nrmL_txt {X : Nat} : ∀ (ts : List Tree), (∀ t ∈ ts, Fit X t) → txtL (nrmL ts) ≤ X * ts.length
  | [], _ => by simp [nrmL, txtL]
  | t :: ts, h => by
    have ih := nrmL_txt ts (fun t ht => h t (by simp [ht]))
    have h1 := (h t (by simp)).text
    have e : ∀ (u : Tree) (l : List Tree), txtL (u :: l) = u.text.size + txtL l := by
      intro u l
      have : ∀ (l : List Tree) (n : Nat), l.foldl (fun n t => n + t.text.size) n = n + txtL l := by
        intro l
        induction l with
        | nil => intro n; simp [txtL]
        | cons x l ih =>
          intro n
          simp only [txtL, List.foldl_cons]
          rw [ih, ih (0 + x.text.size)]
          omega
      simp only [txtL, List.foldl_cons]
      rw [this l (0 + u.text.size)]
      simp only [txtL]
      omega
    rw [nrmL, List.length_cons, Nat.mul_add, Nat.mul_one]
    split
    · omega
    · rw [e, nrm_text]; omega
theorem nrmL_mem : ∀ {ts : List Tree} {u : Tree}, u ∈ nrmL ts → ∃ t ∈ ts, u = nrm t
  | t :: ts, u, h => by
    rw [nrmL] at h
    split at h
    · obtain ⟨x, hx, e⟩ := nrmL_mem h
      exact ⟨x, by simp [hx], e⟩
    · rcases List.mem_cons.1 h with h | h
      · exact ⟨t, by simp, h⟩
      · obtain ⟨x, hx, e⟩ := nrmL_mem h
        exact ⟨x, by simp [hx], e⟩
theorem clnC_le (l : List ByteArray) : (clnC l).length ≤ l.length := by have := clnC_len l l.length; rwa [List.take_length] at this
theorem Fit.nrm {X : Nat} {t : Tree} (h : Fit X t) : Fit (1001 * X) (nrm t) := by
  induction h with
  | @mk k tag key text cl al sl o kids h1 h2 h3 h4 h5 h6 ih =>
    have hc := clnC_le cl
    have hn1 := snap_len nmS al
    have hn2 := snap_len nmI sl
    have hl1 := mrg_len (nrmL kids)
    have hl2 := nrmL_len kids
    have ht := nrmL_txt kids h6
    have hm : X * kids.length ≤ X * 1000 := Nat.mul_le_mul_left X h4
    rw [Proofs.Ytakejjfmbgbedaa.nrm]
    refine .mk (by omega) (by omega) (by omega) (by omega) (by omega) (mrg_fit _ (fun u hu => ?_) (by omega))
    obtain ⟨t, ht, rfl⟩ := nrmL_mem hu
    exact ih t ht
theorem nrmL_fit {X : Nat} {ts : List Tree} (h : ∀ t ∈ ts, Fit X t) : ∀ t ∈ nrmL ts, Fit (1001 * X) t := fun u hu => by
  obtain ⟨t, ht, rfl⟩ := nrmL_mem hu
  exact (h t ht).nrm
theorem Small.fit {t : Tree} (h : Small t) (hc : cnt t ≤ 1000) : Fit 70 t := by
  induction h with
  | mk h hk ih =>
    obtain ⟨_, _, _, h4, h5, _, h6, _, h7, _⟩ := h
    rw [cnt] at hc
    refine .mk (by omega) (by omega) (by omega) ?_ h4 (fun t ht => ih t ht ?_)
    · have := cntL_len ‹List Tree›; omega
    · have := cntL_mem ht; omega
end Go.Proofs.Ytakejjfmbgbedaa
