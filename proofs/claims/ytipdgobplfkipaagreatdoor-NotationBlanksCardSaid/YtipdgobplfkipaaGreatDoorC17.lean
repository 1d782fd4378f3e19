/- Layer 7: views as they are shown, in plain words. Layer 7: which views may be, in plain words. Layer 8, plain: a view that may be, as it is written: short, and read again. Trees with longer lists. Layer 8, plain: what is read of a short text has short lists. Layer 7: views that are the same, in plain words. Layer 7: views that are the same, by the reference. Layer 7: views that are the same, by the program. Layer 7: views that are the same, with all that is below: the program. -/
import Derived.Test.YtipdgobplfkipaaGreatDoorC16
import Derived.Test.YtipdgobplfkipaaGreatDoorC07
import Derived.Test.YtipdgobplfkipaaGreatDoorC14
import Derived.Test.YtipdgobplfkipaaGreatDoorC12
import Derived.Test.YtipdgobplfkipaaGreatDoorC05
set_option linter.all false
namespace Go.Proofs.YtipdgobplfkipaaGreatDoor
open Go.RowKit

def Tree.kind : Tree → Int
  | .mk k _ _ _ _ _ _ _ _ => k
def Tree.text : Tree → ByteArray
  | .mk _ _ _ x _ _ _ _ _ => x
def Tree.plus : Tree → ByteArray → Tree
  | .mk k tag key text cl al sl o ks, x => .mk k tag key (text ++ x) cl al sl o ks
def Tree.void (t : Tree) : Prop := t.kind = 1 ∧ t.text = ⟨#[]⟩
instance (t : Tree) : Decidable t.void := by unfold Tree.void; exact inferInstance

def mrgS (out : List Tree) (t : Tree) : List Tree :=
  match out.getLast? with
  | some u => if t.kind = 1 ∧ u.kind = 1 then out.dropLast ++ [u.plus t.text] else out ++ [t]
  | none => out ++ [t]
def mrg (l : List Tree) : List Tree := l.foldl mrgS []
noncomputable section
mutual
def nrm : Tree → Tree
  | .mk k tag key text cl al sl o kids => .mk k tag key text (clnC cl) (snapF nmS al) (snapF nmI sl) o (mrg (nrmL kids))
def nrmL : List Tree → List Tree
  | [] => []
  | t :: ts => if t.void then nrmL ts else nrm t :: nrmL ts
end
end
def txtL (l : List Tree) : Nat := l.foldl (fun n t => n + t.text.size) 0
inductive Fit (X : Nat) : Tree → Prop
  | mk {k : Int} {tag key text : ByteArray} {cl : List ByteArray} {at_ : List (ByteArray × ByteArray)} {st : List (ByteArray × Int)} {o : Opt} {kids : List Tree}
    (h1 : cl.length ≤ 100) (h2 : at_.length ≤ 100) (h3 : st.length ≤ 100) (h4 : kids.length ≤ 1000) (h5 : text.size ≤ X) (h6 : ∀ t ∈ kids, Fit X t) : Fit X (.mk k tag key text cl at_ st o kids)
end Go.Proofs.YtipdgobplfkipaaGreatDoor
namespace Go.Proofs.YtipdgobplfkipaaGreatDoor
open Go.RowKit

def namesL (cl : List ByteArray) (al : List PrS) (sl : List PrI) : List ByteArray := cl ++ al.map (·.1) ++ sl.map (·.1)
def lasts (n : Int) : Bool := decide (0 ≤ n ∧ n ≤ 1000)
def optsB (o : Opt) (k : Int) : Bool :=
  if k = 3 then lasts o.1 && lasts o.2.1 && lasts o.2.2.1 && decide (o.2.2.2.1 = 0)
  else if k = 4 then lasts o.1 && lasts o.2.1 && decide (o.2.2.1 = 0) && !o.2.2.2.2.2 && decide (0 ≤ o.2.2.2.1 ∧ o.2.2.2.1 ≤ 2)
  else decide (o = (0, 0, 0, 0, false, false))
def bareB (tag key : ByteArray) (cl : List ByteArray) (al : List PrS) (sl : List PrI) (o : Opt) (kids : List Tree) : Bool :=
  decide (tag = ⟨#[]⟩ ∧ key = ⟨#[]⟩ ∧ cl.length + al.length + sl.length + kids.length = 0 ∧ o = (0, 0, 0, 0, false, false))
def valB (al : List PrS) (sl : List PrI) : Bool := al.all (fun x => valS x.2) && sl.all (fun x => decide (-2147483648 ≤ x.2 ∧ x.2 ≤ 2147483647))
def Tree.key : Tree → ByteArray
  | .mk _ _ y _ _ _ _ _ _ => y
def kidB (t : Tree) : Bool := decide (t.kind = 2 ∧ t.key ≠ ⟨#[]⟩)
def keptB (k : Int) (kids : List Tree) : Bool := decide (k = 2) || (kids.all kidB && (decide (k = 3) || decide (kids.length ≤ 1)))
def mayB (k : Int) (tag key text : ByteArray) (cl : List ByteArray) (al : List PrS) (sl : List PrI) (o : Opt) (kids : List Tree) : Bool :=
  if k = 1 then bareB tag key cl al sl o kids && txtS text
  else if k = 2 ∨ k = 3 ∨ k = 4 then decide (text = ⟨#[]⟩) && nameS tag && (namesL cl al sl).all nameS && (decide (key = ⟨#[]⟩) || keyS key) && valB al sl && optsB o k && keptB k kids
  else false
def cntK (c : ByteArray) (ks : List ByteArray) : Nat := ks.countP (fun x => decide (x = c))
def twcB (ks : List ByteArray) : Bool := ks.any (fun c => decide (c ≠ ⟨#[]⟩ ∧ 1 < cntK c ks))

mutual
def chkT : Tree → Int → Int → Int → Int × Int
  | .mk k tag key text cl al sl o kids, deep, depth, left =>
    if depth < deep then (7, left - 1)
    else if left - 1 < 0 then (8, left - 1)
    else if mayB k tag key text cl al sl o kids = false then (4, left - 1)
    else if (namesL cl al sl).any rsvS = true then (6, left - 1)
    else if twcB (kids.map Tree.key) = true then (5, left - 1)
    else chkL kids (deep + 1) depth (left - 1)
def chkL : List Tree → Int → Int → Int → Int × Int
  | [], _, _, left => (0, left)
  | t :: ts, deep, depth, left => if (chkT t deep depth left).1 = 0 then chkL ts deep depth (chkT t deep depth left).2 else chkT t deep depth left
end
inductive Siz (X : Nat) : Tree → Prop
  | mk {k : Int} {tag key text : ByteArray} {cl : List ByteArray} {al : List (ByteArray × ByteArray)} {sl : List (ByteArray × Int)} {o : Opt} {kids : List Tree}
    (h1 : tag.size ≤ X) (h2 : key.size ≤ X) (h3 : text.size ≤ X) (h4 : ∀ c ∈ cl, c.size ≤ X) (h5 : ∀ x ∈ al, x.1.size ≤ X ∧ x.2.size ≤ X) (h6 : ∀ x ∈ sl, x.1.size ≤ X) (h7 : ∀ t ∈ kids, Siz X t) : Siz X (.mk k tag key text cl al sl o kids)
end Go.Proofs.YtipdgobplfkipaaGreatDoor
namespace Go.Proofs.YtipdgobplfkipaaGreatDoor
open Go.RowKit

end Go.Proofs.YtipdgobplfkipaaGreatDoor
namespace Go.Proofs.YtipdgobplfkipaaGreatDoor
inductive FitsW : Tree → Prop
  | mk {k : Int} {tag key text : ByteArray} {cl : List ByteArray} {at_ : List (ByteArray × ByteArray)} {st : List (ByteArray × Int)} {o : Opt} {kids : List Tree}
    (h1 : cl.length ≤ 1000) (h2 : at_.length ≤ 1000) (h3 : st.length ≤ 1000) (h4 : kids.length ≤ 1000) (h5 : ∀ t ∈ kids, FitsW t) : FitsW (.mk k tag key text cl at_ st o kids)
end Go.Proofs.YtipdgobplfkipaaGreatDoor
namespace Go.Proofs.YtipdgobplfkipaaGreatDoor
open Go.RowKit

theorem view_fits (s : ByteArray) (hs : s.size ≤ 1000) : ∀ (f : Nat), (∀ (i op : Nat) (t : Tree) (j : Nat), viewF s f i op = .ok t j → FitsW t ∧ i < j ∧ j ≤ s.size) ∧
    (∀ (i op : Nat) (n : Itm) (seen : List ByteArray) (kids : List Tree) (t : Tree) (j : Nat), elemF s f i op n seen kids = .ok t j → i ≤ s.size → n.cl.length ≤ i → n.al.length ≤ i → n.sl.length ≤ i → kids.length ≤ i → (∀ x ∈ kids, FitsW x) → FitsW t ∧ i < j ∧ j ≤ s.size)
  | 0 => ⟨(fun i op t j h => by simp only [viewF] at h; cases h), (fun i op n seen kids t j h => by simp only [elemF] at h; cases h)⟩
  | f + 1 => by
    obtain ⟨hv, he⟩ := view_fits s hs f
    refine ⟨fun i op t j h => ?_, fun i op n seen kids t j h hi h1 h2 h3 h4 h5 => ?_⟩
    · simp only [viewF] at h
      by_cases k3 : (tokF s i).kind = 3
      · rw [if_pos k3] at h
        injection h with e1 e2
        subst e1 e2
        obtain ⟨a, b⟩ := tok_till (s := s) (i := i) (by omega) (by omega)
        exact ⟨.mk (Nat.zero_le _) (Nat.zero_le _) (Nat.zero_le _) (Nat.zero_le _) (fun x hx => by cases hx), a, b⟩
      · rw [if_neg k3] at h
        by_cases k1 : (tokF s i).kind = 1
        · rw [if_pos k1] at h
          by_cases ho : 40 ≤ op
          · rw [if_pos ho] at h; cases h
          · rw [if_neg ho] at h
            by_cases hg : (tokF s (tokF s i).till).kind = 4 ∧ nameS (tokF s (tokF s i).till).txt = true
            · rw [if_pos hg] at h
              obtain ⟨a, b⟩ := tok_till (s := s) (i := i) (by omega) (by omega)
              obtain ⟨c, d⟩ := tok_till (s := s) (i := (tokF s i).till) (by omega) (by omega)
              obtain ⟨g1, g2, g3⟩ := he _ _ _ _ _ _ _ h d (Nat.zero_le _) (Nat.zero_le _) (Nat.zero_le _) (Nat.zero_le _) (fun x hx => by cases hx)
              exact ⟨g1, by omega, g3⟩
            · rw [if_neg hg] at h; cases h
        · rw [if_neg k1] at h; cases h
    · simp only [elemF] at h
      by_cases k2 : (tokF s i).kind = 2
      · rw [if_pos k2] at h
        injection h with e1 e2
        subst e1 e2
        obtain ⟨a, b⟩ := tok_till (s := s) (i := i) (by omega) (by omega)
        exact ⟨.mk (by omega) (by omega) (by omega) (by omega) h5, a, b⟩
      · rw [if_neg k2] at h
        by_cases k4 : (tokF s i).kind = 4
        · rw [if_pos k4] at h
          obtain ⟨a, b⟩ := tok_till (s := s) (i := i) (by omega) (by omega)
          cases hit : itemF n (tokF s i).txt seen with
          | none => rw [hit] at h; cases h
          | some y =>
            obtain ⟨m, more⟩ := y
            rw [hit] at h
            simp only at h
            obtain ⟨l1, l2, l3⟩ := item_len hit
            obtain ⟨g1, g2, g3⟩ := he _ _ _ _ _ _ _ h b (by omega) (by omega) (by omega) (by omega) h5
            exact ⟨g1, by omega, g3⟩
        · rw [if_neg k4] at h
          cases hvf : viewF s f i op with
          | ok k q =>
            rw [hvf] at h
            simp only at h
            obtain ⟨c1, c2, c3⟩ := hv _ _ _ _ hvf
            obtain ⟨g1, g2, g3⟩ := he _ _ _ _ _ _ _ h c3 (by omega) (by omega) (by omega) (by rw [List.length_append, List.length_cons, List.length_nil]; omega) (fun x hx => by
              rcases List.mem_append.1 hx with hx | hx
              · exact h5 x hx
              · rw [List.mem_singleton] at hx; subst hx; exact c1)
            exact ⟨g1, by omega, g3⟩
          | no a e => rw [hvf] at h; cases h
theorem parse_fits {s : ByteArray} (hs : s.size ≤ 1000) {t : Tree} {j : Nat} (h : parseF s = .ok t j) : FitsW t := by
  unfold parseF at h
  rw [if_neg (by omega)] at h
  cases hv : viewF s (2 * s.size + 2) 0 0 with
  | ok u q =>
    rw [hv] at h
    simp only at h
    split at h
    · injection h with h _
      subst h
      exact ((view_fits s hs _).1 _ _ _ _ hv).1
    · cases h
  | no a e => rw [hv] at h; cases h
theorem fitw_snapN : ∀ (n : Nat) (t : Tree), SizeOf.sizeOf t < n → FitsW t → FitsW (snapT t)
  | 0, t, h, _ => absurd h (by omega)
  | n + 1, .mk k tag key text cl al sl o kids, h, hp => by
    cases hp with
    | mk h1 h2 h3 h4 h5 =>
    rw [snapT]
    refine .mk h1 (by have := snap_len nmS al; omega) (by have := snap_len nmI sl; omega) (by rw [snapTs_len]; exact h4) ?_
    intro t ht
    rw [snapTs_map] at ht
    obtain ⟨u, hu, rfl⟩ := List.mem_map.1 ht
    refine fitw_snapN n u ?_ (h5 u hu)
    have := List.sizeOf_lt_of_mem hu
    simp only [Tree.mk.sizeOf_spec] at h
    omega
theorem fitw_snap {t : Tree} (h : FitsW t) : FitsW (snapT t) := fitw_snapN _ t (Nat.lt_succ_self _) h
theorem fitw_nd0 : FitsW (.mk 0 ⟨#[]⟩ ⟨#[]⟩ ⟨#[]⟩ [] [] [] o0 []) := .mk (Nat.zero_le _) (Nat.zero_le _) (Nat.zero_le _) (Nat.zero_le _) (fun x hx => by cases hx)

def blA (at_ : List Int) (i : Nat) : Nat := match at_[i]? with
  | some x => (bits .and .i64 x 7).toNat
  | none => 1
def blP (L : List Tok) (i : Nat) : Prop := 0 < i ∧ (L[i]?.map Tok.kind) = some 4 ∧ (L[i - 1]?.map Tok.kind) = some 4
instance (L : List Tok) (i : Nat) : Decidable (blP L i) := by unfold blP; infer_instance
def blN (at_ : List Int) (L : List Tok) (i : Nat) : Nat := if blA at_ i = 0 ∧ blP L i then 1 else blA at_ i
def blL (at_ : List Int) (L : List Tok) : List (Nat × TK) := L.mapIdx (fun i t => (blN at_ L i, (t.kind, t.txt)))
theorem bl_blanked {s : ByteArray} (at_ : List Int) (hl : ∃ x, (toksL s 0).getLast? = some x ∧ x.kind = 0) : Blanked s 0 (blL at_ (toksL s 0)) := by
  generalize hL : toksL s 0 = L at hl
  refine ⟨?_, ?_, ?_⟩
  · rw [hL]
    apply List.ext_getElem?
    intro i
    simp only [blL, bare, List.getElem?_map, List.getElem?_mapIdx, Option.map_map]
    rfl
  · obtain ⟨x, hx, h0⟩ := hl
    rw [List.getLast?_eq_getElem?] at hx ⊢
    refine ⟨(blN at_ L (L.length - 1), (x.kind, x.txt)), ?_, h0⟩
    rw [blL, List.length_mapIdx, List.getElem?_mapIdx, hx]; rfl
  · intro j n m t u h1 h2 ht hu
    rw [blL, List.getElem?_mapIdx] at h1 h2
    cases e1 : L[j]? with
    | none => rw [e1] at h1; cases h1
    | some a =>
      cases e2 : L[j + 1]? with
      | none => rw [e2] at h2; cases h2
      | some b =>
        rw [e1] at h1
        rw [e2] at h2
        injection h1 with h1
        injection h2 with h2
        injection h1 with _ h1
        injection h2 with h2 h3
        subst h1 h3
        have ha : a.kind = 4 := ht
        have hb : b.kind = 4 := hu
        rw [← h2]
        unfold blN
        have hp : blP L (j + 1) := ⟨by omega, by rw [e2]; exact congrArg some hb, by rw [Nat.add_sub_cancel, e1]; exact congrArg some ha⟩
        by_cases h : blA at_ (j + 1) = 0
        · rw [if_pos ⟨h, hp⟩]; omega
        · rw [if_neg (fun hh => h hh.1)]; omega
theorem spL_len {s : ByteArray} {i : Nat} (h0 : (tokF s i).kind ≠ 0) (h5 : (tokF s i).kind ≠ 5) : (spL ((tokF s i).kind, (tokF s i).txt)).length + i ≤ (tokF s i).till := by
  have hj := tok_at s i h0
  have hij := scan_ge blkB s _ i (Nat.le_refl _)
  have hx : ∀ a b, a ≤ b → (s.extract a b).data.toList.length ≤ b - a := fun a b hab => by simp [ByteArray.data_extract]; omega
  by_cases n1 : s[scan blkB s i].toNat = 40
  · rw [tok_1 hj n1]; show 1 + i ≤ scan blkB s i + 1; omega
  · by_cases n2 : s[scan blkB s i].toNat = 41
    · rw [tok_2 hj n2]; show 1 + i ≤ scan blkB s i + 1; omega
    · by_cases n3 : s[scan blkB s i].toNat = 39
      · by_cases n4 : scan nqB s (scan blkB s i + 1) < s.size ∧ (s.extract (scan blkB s i + 1) (scan nqB s (scan blkB s i + 1))).data.toList.all priL = true
        · rw [tok_3 hj n3 n4]
          have h1 := scan_ge nqB s _ (scan blkB s i + 1) (Nat.le_refl _)
          have h2 := hx _ _ h1
          show (39 :: (s.extract (scan blkB s i + 1) (scan nqB s (scan blkB s i + 1))).data.toList ++ [39]).length + i ≤ scan nqB s (scan blkB s i + 1) + 1
          rw [List.length_append, List.length_cons, List.length_singleton]
          omega
        · rw [tok_5 hj n3 n4] at h5; exact absurd rfl h5
      · by_cases n4 : visB s[scan blkB s i] = true
        · rw [tok_4 hj n4]
          have h1 := scan_ge visB s _ (scan blkB s i) (Nat.le_refl _)
          have h2 := hx _ _ h1
          show (s.extract (scan blkB s i) (scan visB s (scan blkB s i))).data.toList.length + i ≤ scan visB s (scan blkB s i)
          omega
        · rw [tok_6 hj n1 n2 n3 n4] at h5; exact absurd rfl h5
def spSum : List Tok → Nat
  | [] => 0
  | t :: r => (spL (t.kind, t.txt)).length + spSum r
theorem sp_sum (s : ByteArray) : ∀ (n i : Nat), i ≤ s.size → s.size - i ≤ n → spSum (toksL s i) + i ≤ s.size
  | n, i, hi, hn => by
    by_cases h : (tokF s i).kind = 0 ∨ (tokF s i).kind = 5
    · rw [toks_end h, spSum, spSum]
      have : spL ((tokF s i).kind, (tokF s i).txt) = [] := by rcases h with h | h <;> rw [h] <;> rfl
      rw [this, List.length_nil]; omega
    · have h0 : (tokF s i).kind ≠ 0 := fun e => h (.inl e)
      have h5 : (tokF s i).kind ≠ 5 := fun e => h (.inr e)
      obtain ⟨t1, t2⟩ := tok_till h0 h5
      have h3 := spL_len h0 h5
      rw [toks_more h0 h5, spSum]
      match n, hn with
      | 0, hn => omega
      | n + 1, hn =>
        have := sp_sum s n (tokF s i).till t2 (by omega)
        omega
theorem and7 (x : Int) : 0 ≤ bits .and .i64 x 7 ∧ bits .and .i64 x 7 ≤ 7 := by
  have h1 : (BitVec.ofInt 64 x &&& BitVec.ofInt 64 7).toNat ≤ 7 := by
    rw [BitVec.toNat_and]
    exact Nat.le_trans Nat.and_le_right (by decide)
  have h2 : bits .and .i64 x 7 = ((BitVec.ofInt 64 x &&& BitVec.ofInt 64 7).toNat : Int) := by
    show IntKind.i64.wrap ((BitVec.ofInt 64 x &&& BitVec.ofInt 64 7).toNat : Int) = _
    exact IntWalk.i64_in _ ⟨by omega, by omega⟩
  rw [h2]; omega
theorem blA_le (at_ : List Int) (i : Nat) : blA at_ i ≤ 7 := by
  unfold blA
  split
  · rename_i x _
    have := and7 x
    omega
  · omega
theorem blN_le (at_ : List Int) (L : List Tok) (i : Nat) : blN at_ L i ≤ 7 := by
  unfold blN
  have := blA_le at_ i
  split <;> omega
theorem spAll_le : ∀ (L : List (Nat × TK)), (∀ x ∈ L, x.1 ≤ 7) → (spAll L).length ≤ 7 * L.length + (L.map (fun x => (spL x.2).length)).sum
  | [], _ => by simp [spAll]
  | (n, t) :: r, h => by
    have h1 := spAll_le r (fun x hx => h x (.tail _ hx))
    have h2 : n ≤ 7 := h _ (.head _)
    rw [spAll, List.length_append, List.length_append, List.length_replicate, List.map_cons, List.sum_cons, List.length_cons]
    show _ ≤ 7 * (r.length + 1) + ((spL t).length + _)
    omega
theorem sum_sp : ∀ (L : List Tok), (L.map (fun t => (spL (t.kind, t.txt)).length)).sum = spSum L
  | [] => rfl
  | t :: r => by rw [List.map_cons, List.sum_cons, sum_sp r]; rfl
theorem mapIdx_snd (f : Nat → Tok → Nat) : ∀ (L : List Tok), ((L.mapIdx (fun i t => (f i t, ((t.kind, t.txt) : TK)))).map (fun x => (spL x.2).length)) = L.map (fun t => (spL (t.kind, t.txt)).length) := by
  intro L
  apply List.ext_getElem?
  intro i
  simp only [List.getElem?_map, List.getElem?_mapIdx, Option.map_map]
  rfl
theorem bl_size (s : ByteArray) (at_ : List Int) : (spAll (blL at_ (toksL s 0))).length ≤ 8 * s.size + 7 := by
  have h1 := spAll_le (blL at_ (toksL s 0)) (fun x hx => by
    rw [blL, List.mem_mapIdx] at hx
    obtain ⟨i, hi, rfl⟩ := hx
    exact blN_le _ _ _)
  rw [blL, mapIdx_snd, sum_sp, List.length_mapIdx] at h1
  have h2 := sp_sum s s.size 0 (Nat.zero_le _) (by omega)
  have h3 := toks_len s s.size 0 (by omega)
  rw [blL]
  omega
theorem bl_next {at_ : List Int} {L : List Tok} {i : Nat} {t : Tok} (h : L[i]? = some t) : spAll ((blL at_ L).take (i + 1)) = spAll ((blL at_ L).take i) ++ (List.replicate (blN at_ L i) 32 ++ spL (t.kind, t.txt)) := by
  have e : (blL at_ L)[i]? = some (blN at_ L i, (t.kind, t.txt)) := by rw [blL, List.getElem?_mapIdx, h]; rfl
  rw [List.take_add_one, e, spAll_app]
  show _ ++ (List.replicate _ 32 ++ (spL _ ++ spAll [])) = _
  rw [spAll, List.append_nil]
theorem bl_part {at_ : List Int} {L : List Tok} (i : Nat) : (spAll ((blL at_ L).take i)).length ≤ (spAll (blL at_ L)).length := by
  have : spAll (blL at_ L) = spAll ((blL at_ L).take i) ++ spAll ((blL at_ L).drop i) := by rw [← spAll_app, List.take_append_drop]
  rw [this, List.length_append]; omega
end Go.Proofs.YtipdgobplfkipaaGreatDoor
namespace Go.Proofs.YtipdgobplfkipaaGreatDoor
open Go.RowKit

noncomputable section
open Classical in
mutual
def samT : Tree → Tree → Bool
  | .mk k tag key text cl al sl o kids, .mk k' tag' key' text' cl' al' sl' o' kids' =>
    decide (k = k' ∧ tag = tag' ∧ key = key' ∧ text = text' ∧ o = o' ∧ cl = cl' ∧ snapF nmS al = snapF nmS al' ∧ snapF nmI sl = snapF nmI sl') && samL kids kids'
def samL : List Tree → List Tree → Bool
  | [], [] => true
  | t :: ts, u :: us => samT t u && samL ts us
  | [], _ :: _ => false
  | _ :: _, [] => false
end
end
theorem samL_iff : ∀ (ts us : List Tree), samL ts us = true ↔ ts.length = us.length ∧ ∀ (i : Nat) (t u : Tree), ts[i]? = some t → us[i]? = some u → samT t u = true
  | [], [] => by simp [samL]
  | [], _ :: _ => by simp [samL]
  | _ :: _, [] => by simp [samL]
  | t :: ts, u :: us => by
    rw [samL, Bool.and_eq_true, samL_iff ts us]
    constructor
    · rintro ⟨h1, h2, h3⟩
      refine ⟨by simp [h2], fun i a b ha hb => ?_⟩
      cases i with
      | zero => simp at ha hb; subst ha hb; exact h1
      | succ i => simp at ha hb; exact h3 i a b ha hb
    · rintro ⟨h1, h2⟩
      exact ⟨h2 0 t u rfl rfl, by simpa using h1, fun i a b ha hb => h2 (i + 1) a b (by simpa using ha) (by simpa using hb)⟩
theorem sam_iff {k k' : Int} {tag key text tag' key' text' : ByteArray} {cl cl' : List ByteArray} {al al' : List (ByteArray × ByteArray)} {sl sl' : List (ByteArray × Int)} {o o' : Opt} {kids kids' : List Tree} :
    samT (.mk k tag key text cl al sl o kids) (.mk k' tag' key' text' cl' al' sl' o' kids') = true ↔
      (k = k' ∧ tag = tag' ∧ key = key' ∧ text = text' ∧ o = o' ∧ cl = cl' ∧ snapF nmS al = snapF nmS al' ∧ snapF nmI sl = snapF nmI sl') ∧ samL kids kids' = true := by
  rw [samT, Bool.and_eq_true, decide_eq_true_iff]
theorem sam_refl : ∀ (n : Nat) (t : Tree), SizeOf.sizeOf t < n → samT t t = true
  | 0, _, h => by omega
  | n + 1, .mk k tag key text cl al sl o kids, h => by
    rw [sam_iff]
    refine ⟨⟨rfl, rfl, rfl, rfl, rfl, rfl, rfl, rfl⟩, (samL_iff _ _).2 ⟨rfl, fun i t u ht hu => ?_⟩⟩
    rw [ht] at hu
    cases hu
    exact sam_refl n t (by have := kid_lt (k := k) (tag := tag) (key := key) (text := text) (cl := cl) (at_ := al) (st := sl) (o := o) (List.mem_of_getElem? ht); omega)
theorem sam_self (t : Tree) : samT t t = true := sam_refl _ t (Nat.lt_succ_self _)
theorem sam_false {t u : Tree} (h : ¬ samT t u = true) : samT t u = false := by simpa using h
end Go.Proofs.YtipdgobplfkipaaGreatDoor
namespace Go.Proofs.YtipdgobplfkipaaGreatDoor
open Go.RowKit
set_option maxRecDepth 100000
attribute [local irreducible] Go.Code.wpIn Go.wpListIn Go.Calls Gives Go.Exit.then Go.Exit.inBlock Done ObxE

abbrev nodeV (k : Int) (tag key text : ByteArray) (a1 : Option Addr) (n1 m1 : Nat) (a2 : Option Addr) (n2 m2 : Nat) (a3 : Option Addr) (n3 m3 : Nat) (e lv m d : Int) (p q : Bool) (a4 : Option Addr) (n4 m4 : Nat) : Value :=
  .agg #[.int .i64 k, .string tag, .string key, .string text, .slice a1 n1 m1, .slice a2 n2 m2, .slice a3 n3 m3, .int .i64 e, .int .i64 lv, .int .i64 m, .int .i64 d, .bool p, .bool q, .slice a4 n4 m4]

end Go.Proofs.YtipdgobplfkipaaGreatDoor
namespace Go.Proofs.YtipdgobplfkipaaGreatDoor
open Go.RowKit
set_option maxRecDepth 100000
attribute [local irreducible] Go.Code.wpIn Go.wpListIn Go.Calls Gives Go.Exit.then Go.Exit.inBlock Done ObxE

set_option maxHeartbeats 1000000 in
theorem equalI_any (xs ys : List PrI) (vx vy : Value) (w0 : World) (hx : SlT xs vx w0) (hy : SlT ys vy w0) (hl : xs.length ≤ 30000) :
    Calls Tryz.prog 55 #[vx, vy] w0 (Ret fun v w => v = .bool (decide (xs = ys)) ∧ St w0 [] w) := by
  refine enter Tryz.func55 rfl Tryz.ntmps55 rfl (fun a hk => ?_); have hS := St.refl w0
  (repeat' (first | (show wpListIn _ _ _ _ _ (_ :: _) _ _; first | (refine wx1 ?_; clear hk a; intro a hk) | (refine wx2 ?_ ?_ <;> (intro hp; clear hk a; intro a hk)) | (refine wx3 ?_; clear hk hS a; intro w b hS a hk) | (refine wx4 ?_; clear hk hS a; intro w hS a hk) | (refine wx5 ?_; clear hk hS a; intro w v hS a hk) | fail) | refine wx0 ?_ | (refine s_end hk ?_; clear hk a; intro a hk) | fail))
  · replace hk := Kn.kp [0, 1, 12, 13] hk
    refine wp_for xs.length (fun i _ => [(13, .int .i64 (i : Int))]) (fun _ _ => []) (fun i _ => ∀ j, j < i → xs[j]? = ys[j]?) () hk (by repeat (first | exact trivial | refine ⟨rfl, ?_⟩)) hS (fun j hj => by omega) ?_
    clear hk hS a
    rintro i - a w hi hk hS hF
    by_cases hil : i < xs.length
    · (repeat' (first | (show wpListIn _ _ _ _ _ (_ :: _) _ _; first | (refine wx1 ?_; clear hk a; intro a hk) | (refine wx2 ?_ ?_ <;> (intro hp; clear hk a; intro a hk)) | (refine wx3 ?_; clear hk hS a; intro w b hS a hk) | (refine wx4 ?_; clear hk hS a; intro w hS a hk) | (refine wx5 ?_; clear hk hS a; intro w v hS a hk) | fail) | refine wx0 ?_ | (refine s_end hk ?_; clear hk a; intro a hk) | fail))
      refine wp_drawn 8 mixed (by kernel_rfl) hk hS ?_; clear hk hS a
      (repeat' (first | (show ObxE _ _ _ _ _ _ _ _ _ (_ :: _) _ _ _; first | refine ox1 ?_ | (refine ox2 ?_ ?_ <;> intro hp) | fail) | fail))
      refine obe_nil ⟨rfl, ?_⟩; intro us a w hk hS
      (repeat' (first | (show wpListIn _ _ _ _ _ (_ :: _) _ _; first | (refine wx1 ?_; clear hk a; intro a hk) | (refine wx2 ?_ ?_ <;> (intro hp; clear hk a; intro a hk)) | (refine wx3 ?_; clear hk hS a; intro w b hS a hk) | (refine wx4 ?_; clear hk hS a; intro w hS a hk) | (refine wx5 ?_; clear hk hS a; intro w v hS a hk) | fail) | refine wx0 ?_ | (refine s_end hk ?_; clear hk a; intro a hk) | fail))
      · have he := eqC_enc (x := xs[i]'hil) (y := ys[i]'(by omega)) (by assumption)
        rw [if_pos rfl] at he
        refine ⟨hil, (), hk.sd, hS, fun j hj => ?_⟩
        by_cases e : j = i
        · subst e
          rw [List.getElem?_eq_getElem hil, List.getElem?_eq_getElem (by omega), he]
        · exact hF j (by omega)
      · have he := eqC_enc (x := xs[i]'hil) (y := ys[i]'(by omega)) (by assumption)
        rw [if_neg (by decide)] at he
        refine done1 hk (h := ⟨?_, hS.nil⟩)
        rw [decide_eq_false]
        intro e
        subst e
        exact he rfl
    · (repeat' (first | (show wpListIn _ _ _ _ _ (_ :: _) _ _; first | (refine wx1 ?_; clear hk a; intro a hk) | (refine wx2 ?_ ?_ <;> (intro hp; clear hk a; intro a hk)) | (refine wx3 ?_; clear hk hS a; intro w b hS a hk) | (refine wx4 ?_; clear hk hS a; intro w hS a hk) | (refine wx5 ?_; clear hk hS a; intro w v hS a hk) | fail) | refine wx0 ?_ | (refine s_end hk ?_; clear hk a; intro a hk) | fail))
      refine done1 hk (h := ⟨?_, hS.nil⟩)
      rw [decide_eq_true]
      apply List.ext_getElem?
      intro j
      by_cases hj : j < i
      · exact hF j hj
      · rw [List.getElem?_eq_none (by omega), List.getElem?_eq_none (by omega)]
  · refine done1 hk (h := ⟨?_, hS.nil⟩)
    rw [decide_eq_false]
    intro e
    subst e
    have : ¬ ((xs.length : Nat) : Int) = ((xs.length : Nat) : Int) := by assumption
    exact this rfl

theorem sameI_any (l m : List PrI) (v u : Value) (w0 : World) (hv : SlT l v w0) (hu : SlT m u w0) (hl : l.length ≤ 30000) (hm : m.length ≤ 30000) :
    Calls Tryz.prog 32 #[v, u] w0 (Ret fun v w => v = .bool (decide (snapF nmI l = snapF nmI m)) ∧ St w0 [] w) := by
  have hsl := snap_len nmI l
  refine enter Tryz.func32 rfl Tryz.ntmps32 rfl (fun a hk => ?_); have hS := St.refl w0
  (repeat' (first | (show wpListIn _ _ _ _ _ (_ :: _) _ _; first | (refine wx1 ?_; clear hk a; intro a hk) | (refine wx2 ?_ ?_ <;> (intro hp; clear hk a; intro a hk)) | (refine wx3 ?_; clear hk hS a; intro w b hS a hk) | (refine wx4 ?_; clear hk hS a; intro w hS a hk) | (refine wx5 ?_; clear hk hS a; intro w v hS a hk) | fail) | refine wx0 ?_ | (refine s_end hk ?_; clear hk a; intro a hk) | fail))
  refine sg hk (g_callO hk (hf := by kernel_rfl) (hc := ofI_any l v _ (hS.rdT hv) hl) (h := ?_)); clear hk a; rintro vs w hS1 a hk; replace hS := hS.call hS1; clear hS1
  (repeat' (first | (show wpListIn _ _ _ _ _ (_ :: _) _ _; first | (refine wx1 ?_; clear hk a; intro a hk) | (refine wx2 ?_ ?_ <;> (intro hp; clear hk a; intro a hk)) | (refine wx3 ?_; clear hk hS a; intro w b hS a hk) | (refine wx4 ?_; clear hk hS a; intro w hS a hk) | (refine wx5 ?_; clear hk hS a; intro w v hS a hk) | fail) | refine wx0 ?_ | (refine s_end hk ?_; clear hk a; intro a hk) | fail))
  refine sg hk (g_callO hk (hf := by kernel_rfl) (hc := ofI_any m u _ (hS.rdT hu) hm) (h := ?_)); clear hk a; rintro vt w hS1 a hk; replace hS := hS.call hS1; clear hS1
  (repeat' (first | (show wpListIn _ _ _ _ _ (_ :: _) _ _; first | (refine wx1 ?_; clear hk a; intro a hk) | (refine wx2 ?_ ?_ <;> (intro hp; clear hk a; intro a hk)) | (refine wx3 ?_; clear hk hS a; intro w b hS a hk) | (refine wx4 ?_; clear hk hS a; intro w hS a hk) | (refine wx5 ?_; clear hk hS a; intro w v hS a hk) | fail) | refine wx0 ?_ | (refine s_end hk ?_; clear hk a; intro a hk) | fail))
  refine sg hk (g_callO hk (hf := by kernel_rfl) (hc := equalI_any _ _ vs vt _ (by first | exact St.rdT hS (by assumption) | exact OwT.rd (hS.rd (A := OwT _ _ _) (by (repeat (first | exact At.here | apply At.there)))) | assumption) (by first | exact St.rdT hS (by assumption) | exact OwT.rd (hS.rd (A := OwT _ _ _) (by (repeat (first | exact At.here | apply At.there)))) | assumption) (by omega)) (h := ?_)); clear hk a; rintro _ w ⟨rfl, hS1⟩ a hk; replace hS := hS.call0 hS1; clear hS1
  (repeat' (first | (show wpListIn _ _ _ _ _ (_ :: _) _ _; first | (refine wx1 ?_; clear hk a; intro a hk) | (refine wx2 ?_ ?_ <;> (intro hp; clear hk a; intro a hk)) | (refine wx3 ?_; clear hk hS a; intro w b hS a hk) | (refine wx4 ?_; clear hk hS a; intro w hS a hk) | (refine wx5 ?_; clear hk hS a; intro w v hS a hk) | fail) | refine wx0 ?_ | (refine s_end hk ?_; clear hk a; intro a hk) | fail))
  exact done1 hk (h := ⟨rfl, hS.nil⟩)

set_option maxHeartbeats 1000000 in
theorem equalS_any (xs ys : List PrS) (vx vy : Value) (w0 : World) (hx : SlT xs vx w0) (hy : SlT ys vy w0) (hl : xs.length ≤ 30000) :
    Calls Tryz.prog 54 #[vx, vy] w0 (Ret fun v w => v = .bool (decide (xs = ys)) ∧ St w0 [] w) := by
  refine enter Tryz.func54 rfl Tryz.ntmps54 rfl (fun a hk => ?_); have hS := St.refl w0
  (repeat' (first | (show wpListIn _ _ _ _ _ (_ :: _) _ _; first | (refine wx1 ?_; clear hk a; intro a hk) | (refine wx2 ?_ ?_ <;> (intro hp; clear hk a; intro a hk)) | (refine wx3 ?_; clear hk hS a; intro w b hS a hk) | (refine wx4 ?_; clear hk hS a; intro w hS a hk) | (refine wx5 ?_; clear hk hS a; intro w v hS a hk) | fail) | refine wx0 ?_ | (refine s_end hk ?_; clear hk a; intro a hk) | fail))
  · replace hk := Kn.kp [0, 1, 12, 13] hk
    refine wp_for xs.length (fun i _ => [(13, .int .i64 (i : Int))]) (fun _ _ => []) (fun i _ => ∀ j, j < i → xs[j]? = ys[j]?) () hk (by repeat (first | exact trivial | refine ⟨rfl, ?_⟩)) hS (fun j hj => by omega) ?_
    clear hk hS a
    rintro i - a w hi hk hS hF
    by_cases hil : i < xs.length
    · (repeat' (first | (show wpListIn _ _ _ _ _ (_ :: _) _ _; first | (refine wx1 ?_; clear hk a; intro a hk) | (refine wx2 ?_ ?_ <;> (intro hp; clear hk a; intro a hk)) | (refine wx3 ?_; clear hk hS a; intro w b hS a hk) | (refine wx4 ?_; clear hk hS a; intro w hS a hk) | (refine wx5 ?_; clear hk hS a; intro w v hS a hk) | fail) | refine wx0 ?_ | (refine s_end hk ?_; clear hk a; intro a hk) | fail))
      refine wp_drawn 8 mixed (by kernel_rfl) hk hS ?_; clear hk hS a
      (repeat' (first | (show ObxE _ _ _ _ _ _ _ _ _ (_ :: _) _ _ _; first | refine ox1 ?_ | (refine ox2 ?_ ?_ <;> intro hp) | fail) | fail))
      refine obe_nil ⟨rfl, ?_⟩; intro us a w hk hS
      (repeat' (first | (show wpListIn _ _ _ _ _ (_ :: _) _ _; first | (refine wx1 ?_; clear hk a; intro a hk) | (refine wx2 ?_ ?_ <;> (intro hp; clear hk a; intro a hk)) | (refine wx3 ?_; clear hk hS a; intro w b hS a hk) | (refine wx4 ?_; clear hk hS a; intro w hS a hk) | (refine wx5 ?_; clear hk hS a; intro w v hS a hk) | fail) | refine wx0 ?_ | (refine s_end hk ?_; clear hk a; intro a hk) | fail))
      · have he := eqC_enc (x := xs[i]'hil) (y := ys[i]'(by omega)) (by assumption)
        rw [if_pos rfl] at he
        refine ⟨hil, (), hk.sd, hS, fun j hj => ?_⟩
        by_cases e : j = i
        · subst e
          rw [List.getElem?_eq_getElem hil, List.getElem?_eq_getElem (by omega), he]
        · exact hF j (by omega)
      · have he := eqC_enc (x := xs[i]'hil) (y := ys[i]'(by omega)) (by assumption)
        rw [if_neg (by decide)] at he
        refine done1 hk (h := ⟨?_, hS.nil⟩)
        rw [decide_eq_false]
        intro e
        subst e
        exact he rfl
    · (repeat' (first | (show wpListIn _ _ _ _ _ (_ :: _) _ _; first | (refine wx1 ?_; clear hk a; intro a hk) | (refine wx2 ?_ ?_ <;> (intro hp; clear hk a; intro a hk)) | (refine wx3 ?_; clear hk hS a; intro w b hS a hk) | (refine wx4 ?_; clear hk hS a; intro w hS a hk) | (refine wx5 ?_; clear hk hS a; intro w v hS a hk) | fail) | refine wx0 ?_ | (refine s_end hk ?_; clear hk a; intro a hk) | fail))
      refine done1 hk (h := ⟨?_, hS.nil⟩)
      rw [decide_eq_true]
      apply List.ext_getElem?
      intro j
      by_cases hj : j < i
      · exact hF j hj
      · rw [List.getElem?_eq_none (by omega), List.getElem?_eq_none (by omega)]
  · refine done1 hk (h := ⟨?_, hS.nil⟩)
    rw [decide_eq_false]
    intro e
    subst e
    have : ¬ ((xs.length : Nat) : Int) = ((xs.length : Nat) : Int) := by assumption
    exact this rfl

theorem sameS_any (l m : List PrS) (v u : Value) (w0 : World) (hv : SlT l v w0) (hu : SlT m u w0) (hl : l.length ≤ 30000) (hm : m.length ≤ 30000) :
    Calls Tryz.prog 31 #[v, u] w0 (Ret fun v w => v = .bool (decide (snapF nmS l = snapF nmS m)) ∧ St w0 [] w) := by
  have hsl := snap_len nmS l
  refine enter Tryz.func31 rfl Tryz.ntmps31 rfl (fun a hk => ?_); have hS := St.refl w0
  (repeat' (first | (show wpListIn _ _ _ _ _ (_ :: _) _ _; first | (refine wx1 ?_; clear hk a; intro a hk) | (refine wx2 ?_ ?_ <;> (intro hp; clear hk a; intro a hk)) | (refine wx3 ?_; clear hk hS a; intro w b hS a hk) | (refine wx4 ?_; clear hk hS a; intro w hS a hk) | (refine wx5 ?_; clear hk hS a; intro w v hS a hk) | fail) | refine wx0 ?_ | (refine s_end hk ?_; clear hk a; intro a hk) | fail))
  refine sg hk (g_callO hk (hf := by kernel_rfl) (hc := ofS_any l v _ (hS.rdT hv) hl) (h := ?_)); clear hk a; rintro vs w hS1 a hk; replace hS := hS.call hS1; clear hS1
  (repeat' (first | (show wpListIn _ _ _ _ _ (_ :: _) _ _; first | (refine wx1 ?_; clear hk a; intro a hk) | (refine wx2 ?_ ?_ <;> (intro hp; clear hk a; intro a hk)) | (refine wx3 ?_; clear hk hS a; intro w b hS a hk) | (refine wx4 ?_; clear hk hS a; intro w hS a hk) | (refine wx5 ?_; clear hk hS a; intro w v hS a hk) | fail) | refine wx0 ?_ | (refine s_end hk ?_; clear hk a; intro a hk) | fail))
  refine sg hk (g_callO hk (hf := by kernel_rfl) (hc := ofS_any m u _ (hS.rdT hu) hm) (h := ?_)); clear hk a; rintro vt w hS1 a hk; replace hS := hS.call hS1; clear hS1
  (repeat' (first | (show wpListIn _ _ _ _ _ (_ :: _) _ _; first | (refine wx1 ?_; clear hk a; intro a hk) | (refine wx2 ?_ ?_ <;> (intro hp; clear hk a; intro a hk)) | (refine wx3 ?_; clear hk hS a; intro w b hS a hk) | (refine wx4 ?_; clear hk hS a; intro w hS a hk) | (refine wx5 ?_; clear hk hS a; intro w v hS a hk) | fail) | refine wx0 ?_ | (refine s_end hk ?_; clear hk a; intro a hk) | fail))
  refine sg hk (g_callO hk (hf := by kernel_rfl) (hc := equalS_any _ _ vs vt _ (by first | exact St.rdT hS (by assumption) | exact OwT.rd (hS.rd (A := OwT _ _ _) (by (repeat (first | exact At.here | apply At.there)))) | assumption) (by first | exact St.rdT hS (by assumption) | exact OwT.rd (hS.rd (A := OwT _ _ _) (by (repeat (first | exact At.here | apply At.there)))) | assumption) (by omega)) (h := ?_)); clear hk a; rintro _ w ⟨rfl, hS1⟩ a hk; replace hS := hS.call0 hS1; clear hS1
  (repeat' (first | (show wpListIn _ _ _ _ _ (_ :: _) _ _; first | (refine wx1 ?_; clear hk a; intro a hk) | (refine wx2 ?_ ?_ <;> (intro hp; clear hk a; intro a hk)) | (refine wx3 ?_; clear hk hS a; intro w b hS a hk) | (refine wx4 ?_; clear hk hS a; intro w hS a hk) | (refine wx5 ?_; clear hk hS a; intro w v hS a hk) | fail) | refine wx0 ?_ | (refine s_end hk ?_; clear hk a; intro a hk) | fail))
  exact done1 hk (h := ⟨rfl, hS.nil⟩)

set_option maxHeartbeats 1000000 in
theorem equalC_any (xs ys : List ByteArray) (vx vy : Value) (w0 : World) (hx : SlT xs vx w0) (hy : SlT ys vy w0) (hl : xs.length ≤ 30000) :
    Calls Tryz.prog 53 #[vx, vy] w0 (Ret fun v w => v = .bool (decide (xs = ys)) ∧ St w0 [] w) := by
  refine enter Tryz.func53 rfl Tryz.ntmps53 rfl (fun a hk => ?_); have hS := St.refl w0
  (repeat' (first | (show wpListIn _ _ _ _ _ (_ :: _) _ _; first | (refine wx1 ?_; clear hk a; intro a hk) | (refine wx2 ?_ ?_ <;> (intro hp; clear hk a; intro a hk)) | (refine wx3 ?_; clear hk hS a; intro w b hS a hk) | (refine wx4 ?_; clear hk hS a; intro w hS a hk) | (refine wx5 ?_; clear hk hS a; intro w v hS a hk) | fail) | refine wx0 ?_ | (refine s_end hk ?_; clear hk a; intro a hk) | fail))
  · replace hk := Kn.kp [0, 1, 12, 13] hk
    refine wp_for xs.length (fun i _ => [(13, .int .i64 (i : Int))]) (fun _ _ => []) (fun i _ => ∀ j, j < i → xs[j]? = ys[j]?) () hk (by repeat (first | exact trivial | refine ⟨rfl, ?_⟩)) hS (fun j hj => by omega) ?_
    clear hk hS a
    rintro i - a w hi hk hS hF
    by_cases hil : i < xs.length
    · (repeat' (first | (show wpListIn _ _ _ _ _ (_ :: _) _ _; first | (refine wx1 ?_; clear hk a; intro a hk) | (refine wx2 ?_ ?_ <;> (intro hp; clear hk a; intro a hk)) | (refine wx3 ?_; clear hk hS a; intro w b hS a hk) | (refine wx4 ?_; clear hk hS a; intro w hS a hk) | (refine wx5 ?_; clear hk hS a; intro w v hS a hk) | fail) | refine wx0 ?_ | (refine s_end hk ?_; clear hk a; intro a hk) | fail))
      refine wp_drawn 8 mixed (by kernel_rfl) hk hS ?_; clear hk hS a
      (repeat' (first | (show ObxE _ _ _ _ _ _ _ _ _ (_ :: _) _ _ _; first | refine ox1 ?_ | (refine ox2 ?_ ?_ <;> intro hp) | fail) | fail))
      refine obe_nil ⟨rfl, ?_⟩; intro us a w hk hS
      (repeat' (first | (show wpListIn _ _ _ _ _ (_ :: _) _ _; first | (refine wx1 ?_; clear hk a; intro a hk) | (refine wx2 ?_ ?_ <;> (intro hp; clear hk a; intro a hk)) | (refine wx3 ?_; clear hk hS a; intro w b hS a hk) | (refine wx4 ?_; clear hk hS a; intro w hS a hk) | (refine wx5 ?_; clear hk hS a; intro w v hS a hk) | fail) | refine wx0 ?_ | (refine s_end hk ?_; clear hk a; intro a hk) | fail))
      · have he : xs[i]'hil = ys[i]'(by omega) := by assumption
        refine ⟨hil, (), hk.sd, hS, fun j hj => ?_⟩
        by_cases e : j = i
        · subst e
          rw [List.getElem?_eq_getElem hil, List.getElem?_eq_getElem (by omega), he]
        · exact hF j (by omega)
      · have he : ¬ xs[i]'hil = ys[i]'(by omega) := by assumption
        refine done1 hk (h := ⟨?_, hS.nil⟩)
        rw [decide_eq_false]
        intro e
        subst e
        exact he rfl
    · (repeat' (first | (show wpListIn _ _ _ _ _ (_ :: _) _ _; first | (refine wx1 ?_; clear hk a; intro a hk) | (refine wx2 ?_ ?_ <;> (intro hp; clear hk a; intro a hk)) | (refine wx3 ?_; clear hk hS a; intro w b hS a hk) | (refine wx4 ?_; clear hk hS a; intro w hS a hk) | (refine wx5 ?_; clear hk hS a; intro w v hS a hk) | fail) | refine wx0 ?_ | (refine s_end hk ?_; clear hk a; intro a hk) | fail))
      refine done1 hk (h := ⟨?_, hS.nil⟩)
      rw [decide_eq_true]
      apply List.ext_getElem?
      intro j
      by_cases hj : j < i
      · exact hF j hj
      · rw [List.getElem?_eq_none (by omega), List.getElem?_eq_none (by omega)]
  · refine done1 hk (h := ⟨?_, hS.nil⟩)
    rw [decide_eq_false]
    intro e
    subst e
    have : ¬ ((xs.length : Nat) : Int) = ((xs.length : Nat) : Int) := by assumption
    exact this rfl


theorem cSame_any (xs ys : List ByteArray) (vx vy : Value) (w0 : World) (hx : SlT xs vx w0) (hy : SlT ys vy w0) (hl : xs.length ≤ 30000) :
    Calls Tryz.prog 30 #[vx, vy] w0 (Ret fun v w => v = .bool (decide (xs = ys)) ∧ St w0 [] w) := by
  refine enter Tryz.func30 rfl Tryz.ntmps30 rfl (fun a hk => ?_); have hS := St.refl w0
  (repeat' (first | (show wpListIn _ _ _ _ _ (_ :: _) _ _; first | (refine wx1 ?_; clear hk a; intro a hk) | (refine wx2 ?_ ?_ <;> (intro hp; clear hk a; intro a hk)) | (refine wx3 ?_; clear hk hS a; intro w b hS a hk) | (refine wx4 ?_; clear hk hS a; intro w hS a hk) | (refine wx5 ?_; clear hk hS a; intro w v hS a hk) | fail) | refine wx0 ?_ | (refine s_end hk ?_; clear hk a; intro a hk) | fail))
  refine sg hk (g_callO hk (hf := by kernel_rfl) (hc := equalC_any xs ys vx vy _ (hS.rdT hx) (hS.rdT hy) hl) (h := ?_)); clear hk a; rintro _ w ⟨rfl, hS1⟩ a hk; replace hS := hS.call0 hS1; clear hS1
  (repeat' (first | (show wpListIn _ _ _ _ _ (_ :: _) _ _; first | (refine wx1 ?_; clear hk a; intro a hk) | (refine wx2 ?_ ?_ <;> (intro hp; clear hk a; intro a hk)) | (refine wx3 ?_; clear hk hS a; intro w b hS a hk) | (refine wx4 ?_; clear hk hS a; intro w hS a hk) | (refine wx5 ?_; clear hk hS a; intro w v hS a hk) | fail) | refine wx0 ?_ | (refine s_end hk ?_; clear hk a; intro a hk) | fail))
  exact done1 hk (h := ⟨rfl, hS.nil⟩)

set_option maxHeartbeats 4000000 in
theorem eqFunc_any (f : FuncId) (hf : callable Tryz.prog f = true) (ts us : List Tree) (H G : List NdH) (v u : Value) (w0 : World) (hv : SlT H v w0) (hu : SlT G u w0) (hF : FoR w0 ts H) (hG : FoR w0 us G) (hlen : ts.length ≤ 30000)
    (hc : ∀ (i : Nat) (t t' : Tree) (hd gd : NdH) (w : World), ts[i]? = some t → us[i]? = some t' → TrR w t hd → TrR w t' gd → Calls Tryz.prog f #[ndV hd, ndV gd] w (Ret fun r w' => r = .bool (samT t t') ∧ St w [] w')) :
    Calls Tryz.prog 33 #[v, u, .func (.func f) #[] #[]] w0 (Ret fun r w => r = .bool (samL ts us) ∧ St w0 [] w) := by
  have hHk : H.length = ts.length := hF.1
  have hGk : G.length = us.length := hG.1
  have hiff := samL_iff ts us
  refine enter Tryz.func33 rfl Tryz.ntmps33 rfl (fun a hk => ?_); have hS := St.refl w0
  by_cases hln : H.length = G.length
  · (repeat' (first | (show wpListIn _ _ _ _ _ (_ :: _) _ _; first | (refine wx1 ?_; clear hk a; intro a hk) | (refine wx2 ?_ ?_ <;> (intro hp; clear hk a; intro a hk)) | (refine wx3 ?_; clear hk hS a; intro w b hS a hk) | (refine wx4 ?_; clear hk hS a; intro w hS a hk) | (refine wx5 ?_; clear hk hS a; intro w v hS a hk) | fail) | refine wx0 ?_ | (refine s_end hk ?_; clear hk a; intro a hk) | fail))
    replace hk := Kn.kp [1, 2, 15, 16, 17] hk
    refine wp_for H.length (fun i _ => [(17, .int .i64 (i : Int))]) (fun _ _ => []) (fun i _ => ∀ (j : Nat) (t u : Tree), j < i → ts[j]? = some t → us[j]? = some u → samT t u = true) () hk (by repeat (first | exact trivial | refine ⟨rfl, ?_⟩)) hS.sb (fun j t u hj => by omega) ?_
    clear hk hS a
    rintro i - a w hi hk hS hEq
    have hv1 := hS.rdT hv
    have hu1 := hS.rdT hu
    by_cases hil : i < H.length
    · obtain ⟨tk, htk⟩ : ∃ t, ts[i]? = some t := ⟨_, List.getElem?_eq_getElem (by omega)⟩
      obtain ⟨uk, huk⟩ : ∃ t, us[i]? = some t := ⟨_, List.getElem?_eq_getElem (by omega)⟩
      obtain ⟨hd0, hx⟩ : ∃ x, H[i]? = some x := ⟨_, List.getElem?_eq_getElem hil⟩
      obtain ⟨gd0, hy⟩ : ∃ x, G[i]? = some x := ⟨_, List.getElem?_eq_getElem (by omega)⟩
      have hTr := hF.2 i tk hd0 htk hx
      have hTu := hG.2 i uk gd0 huk hy
      obtain ⟨k0, tag0, key0, text0, ⟨x1, x2, x3⟩, ⟨y1, y2, y3⟩, ⟨z1, z2, z3⟩, ⟨e0, lv0, m0, d0, p0, q0⟩, ⟨u1, u2, u3⟩⟩ := hd0
      obtain ⟨k9, tag9, key9, text9, ⟨x19, x29, x39⟩, ⟨y19, y29, y39⟩, ⟨z19, z29, z39⟩, ⟨e9, lv9, m9, d9, p9, q9⟩, ⟨u19, u29, u39⟩⟩ := gd0
      have hcall := fun w h1 h2 => hc i tk uk (k0, tag0, key0, text0, ⟨x1, x2, x3⟩, ⟨y1, y2, y3⟩, ⟨z1, z2, z3⟩, (e0, lv0, m0, d0, p0, q0), ⟨u1, u2, u3⟩) (k9, tag9, key9, text9, ⟨x19, x29, x39⟩, ⟨y19, y29, y39⟩, ⟨z19, z29, z39⟩, (e9, lv9, m9, d9, p9, q9), ⟨u19, u29, u39⟩) w htk huk h1 h2
      (repeat' (first | (show wpListIn _ _ _ _ _ (_ :: _) _ _; first | (refine wx1 ?_; clear hk a; intro a hk) | (refine wx2 ?_ ?_ <;> (intro hp; clear hk a; intro a hk)) | (refine wx3 ?_; clear hk hS a; intro w b hS a hk) | (refine wx4 ?_; clear hk hS a; intro w hS a hk) | (refine wx5 ?_; clear hk hS a; intro w v hS a hk) | fail) | refine wx0 ?_ | (refine s_end hk ?_; clear hk a; intro a hk) | fail))
      refine sg hk (g_callvO (first := []) (cap := []) hk (hf := hf) (hc := hcall _ (hS.rdTr hTr) (hS.rdTr hTu)) (h := ?_)); clear hk a; rintro _ w2 ⟨rfl, hS1⟩ a hk; replace hS := hS.call0 hS1; clear hS1
      cases hs : samT tk uk with
      | true =>
        rw [hs] at hk
        (repeat' (first | (show wpListIn _ _ _ _ _ (_ :: _) _ _; first | (refine wx1 ?_; clear hk a; intro a hk) | (refine wx2 ?_ ?_ <;> (intro hp; clear hk a; intro a hk)) | (refine wx3 ?_; clear hk hS a; intro w b hS a hk) | (refine wx4 ?_; clear hk hS a; intro w hS a hk) | (refine wx5 ?_; clear hk hS a; intro w v hS a hk) | fail) | refine wx0 ?_ | (refine s_end hk ?_; clear hk a; intro a hk) | fail))
        refine ⟨hil, (), hk.sd, hS.sb, fun j t u hj ht hu => ?_⟩
        by_cases e : j = i
        · subst e
          rw [htk] at ht
          rw [huk] at hu
          cases ht
          cases hu
          exact hs
        · exact hEq j t u (by omega) ht hu
      | false =>
        rw [hs] at hk
        (repeat' (first | (show wpListIn _ _ _ _ _ (_ :: _) _ _; first | (refine wx1 ?_; clear hk a; intro a hk) | (refine wx2 ?_ ?_ <;> (intro hp; clear hk a; intro a hk)) | (refine wx3 ?_; clear hk hS a; intro w b hS a hk) | (refine wx4 ?_; clear hk hS a; intro w hS a hk) | (refine wx5 ?_; clear hk hS a; intro w v hS a hk) | fail) | refine wx0 ?_ | (refine s_end hk ?_; clear hk a; intro a hk) | fail))
        have : samL ts us = false := by
          cases h : samL ts us with
          | false => rfl
          | true => have := (hiff.1 h).2 i tk uk htk huk; rw [hs] at this; cases this
        exact done1 hk (h := ⟨by rw [this], hS.nil⟩)
    · have : i = H.length := by omega
      subst this
      (repeat' (first | (show wpListIn _ _ _ _ _ (_ :: _) _ _; first | (refine wx1 ?_; clear hk a; intro a hk) | (refine wx2 ?_ ?_ <;> (intro hp; clear hk a; intro a hk)) | (refine wx3 ?_; clear hk hS a; intro w b hS a hk) | (refine wx4 ?_; clear hk hS a; intro w hS a hk) | (refine wx5 ?_; clear hk hS a; intro w v hS a hk) | fail) | refine wx0 ?_ | (refine s_end hk ?_; clear hk a; intro a hk) | fail))
      exact done1 hk (h := ⟨by rw [hiff.2 ⟨by omega, fun j t u ht hu => hEq j t u (by have := lt_of_get ht; omega) ht hu⟩], hS.nil⟩)
  · (repeat' (first | (show wpListIn _ _ _ _ _ (_ :: _) _ _; first | (refine wx1 ?_; clear hk a; intro a hk) | (refine wx2 ?_ ?_ <;> (intro hp; clear hk a; intro a hk)) | (refine wx3 ?_; clear hk hS a; intro w b hS a hk) | (refine wx4 ?_; clear hk hS a; intro w hS a hk) | (refine wx5 ?_; clear hk hS a; intro w v hS a hk) | fail) | refine wx0 ?_ | (refine s_end hk ?_; clear hk a; intro a hk) | fail))
    have : samL ts us = false := by
      cases h : samL ts us with
      | false => rfl
      | true => have := (hiff.1 h).1; omega
    exact done1 hk (h := ⟨by rw [this], hS.nil⟩)
end Go.Proofs.YtipdgobplfkipaaGreatDoor
namespace Go.Proofs.YtipdgobplfkipaaGreatDoor
open Go.RowKit
set_option maxRecDepth 100000
attribute [local irreducible] Go.Code.wpIn Go.wpListIn Go.Calls Gives Go.Exit.then Go.Exit.inBlock Done ObxE

set_option maxHeartbeats 8000000 in
theorem vsameW_any : ∀ (n : Nat) (t u : Tree) (h g : NdH) (w0 : World), SizeOf.sizeOf t < n → FitsW t → FitsW u → TrR w0 t h → TrR w0 u g → Calls Tryz.prog 14 #[ndV h, ndV g] w0 (Ret fun v w => v = .bool (samT t u) ∧ St w0 [] w)
  | 0, _, _, _, _, _, hn, _, _, _, _ => by omega
  | n + 1, t, u, h, g, w0, hn, hf, hf', hr, hr' => by
    have ih := vsameW_any n
    obtain ⟨k, tag, key, text, cl, al, sl, e, lv, m, d, p, q, kids, a1, m1, a2, m2, a3, m3, a4, m4, H, rfl, rfl, c1, c2, c3, c4, hF⟩ := hr.split
    obtain ⟨k', tag', key', text', cl', al', sl', e', lv', m', d', p', q', kids', b1', n1, b2', n2, b3', n3, b4', n4, G, rfl, rfl, g1, g2, g3, g4, hG⟩ := hr'.split
    obtain ⟨l1, l2, l3, l4, l5⟩ := hf
    obtain ⟨l1', l2', l3', l4', l5'⟩ := hf'
    show Calls Tryz.prog 14 #[nodeV k tag key text a1 cl.length m1 a2 al.length m2 a3 sl.length m3 e lv m d p q a4 H.length m4, nodeV k' tag' key' text' b1' cl'.length n1 b2' al'.length n2 b3' sl'.length n3 e' lv' m' d' p' q' b4' G.length n4] w0 _
    have hiff := sam_iff (k := k) (k' := k') (tag := tag) (tag' := tag') (key := key) (key' := key') (text := text) (text' := text') (cl := cl) (cl' := cl') (al := al) (al' := al') (sl := sl) (sl' := sl') (o := (e, lv, m, d, p, q)) (o' := (e', lv', m', d', p', q')) (kids := kids) (kids' := kids')
    have hcs := fun w0 h1 h2 => cSame_any cl cl' (.slice a1 cl.length m1) (.slice b1' cl'.length n1) w0 h1 h2 (by omega)
    have hss := fun w0 h1 h2 => sameS_any al al' (.slice a2 al.length m2) (.slice b2' al'.length n2) w0 h1 h2 (by omega) (by omega)
    have hii := fun w0 h1 h2 => sameI_any sl sl' (.slice a3 sl.length m3) (.slice b3' sl'.length n3) w0 h1 h2 (by omega) (by omega)
    have hee := fun w0 h1 h2 h3 h4 => eqFunc_any 14 (by kernel_rfl) kids kids' H G (.slice a4 H.length m4) (.slice b4' G.length n4) w0 h1 h2 h3 h4 (by omega)
      (fun i t t' hd gd w ht ht' h1 h2 => ih t t' hd gd w (by have := kid_lt (k := k) (tag := tag) (key := key) (text := text) (cl := cl) (at_ := al) (st := sl) (o := (e, lv, m, d, p, q)) (List.mem_of_getElem? ht); omega) (l5 t (List.mem_of_getElem? ht)) (l5' t' (List.mem_of_getElem? ht')) h1 h2)
    refine enter Tryz.func14 rfl Tryz.ntmps14 rfl (fun a hk => ?_); have hS := St.refl w0
    (repeat' (first | (show wpListIn _ _ _ _ _ (_ :: _) _ _; first | (refine wx1 ?_; clear hk a; intro a hk) | (refine wx2 ?_ ?_ <;> (intro hp; clear hk a; intro a hk)) | (refine wx3 ?_; clear hk hS a; intro w b hS a hk) | (refine wx4 ?_; clear hk hS a; intro w hS a hk) | (refine wx5 ?_; clear hk hS a; intro w v hS a hk) | fail) | refine wx0 ?_ | (refine s_end hk ?_; clear hk a; intro a hk) | fail))
    rotate_left
    all_goals try (
      refine done1 hk (h := ⟨congrArg Value.bool (sam_false fun hh => ?_).symm, hS.nil⟩)
      obtain ⟨⟨q1, q2, q3, q4, q5, q6, q7, q8⟩, q9⟩ := hiff.1 hh
      first
        | exact absurd q1 (by assumption)
        | exact absurd q2 (by assumption)
        | exact absurd q3 (by assumption)
        | exact absurd q4 (by assumption)
        | (simp only [Prod.mk.injEq] at q5; obtain ⟨rfl, rfl, rfl, rfl, rfl, rfl⟩ := q5; exact absurd ((eqC_self _).symm.trans (by assumption)) (by decide)))
    have ho : ((e, lv, m, d, p, q) : Opt) = (e', lv', m', d', p', q') := by
      have := eqC_enc (α := Opt) (x := (e, lv, m, d, p, q)) (y := (e', lv', m', d', p', q')) (b := true) (by assumption)
      rwa [if_pos rfl] at this
    have hb1 : k = k' := by assumption
    have hb2 : tag = tag' := by assumption
    have hb3 : key = key' := by assumption
    have hb4 : text = text' := by assumption
    by_cases hcl : cl = cl'
    · rw [decide_eq_true hcl] at hcs
      refine sg hk (g_callO hk (hf := by kernel_rfl) (hc := hcs _ (hS.rdT c1) (hS.rdT g1)) (h := ?_)); clear hk a; rintro _ w ⟨rfl, hS1⟩ a hk; replace hS := hS.call0 hS1; clear hS1
      (repeat' (first | (show wpListIn _ _ _ _ _ (_ :: _) _ _; first | (refine wx1 ?_; clear hk a; intro a hk) | (refine wx2 ?_ ?_ <;> (intro hp; clear hk a; intro a hk)) | (refine wx3 ?_; clear hk hS a; intro w b hS a hk) | (refine wx4 ?_; clear hk hS a; intro w hS a hk) | (refine wx5 ?_; clear hk hS a; intro w v hS a hk) | fail) | refine wx0 ?_ | (refine s_end hk ?_; clear hk a; intro a hk) | fail))
      by_cases hal : snapF nmS al = snapF nmS al'
      · rw [decide_eq_true hal] at hss
        refine sg hk (g_callO hk (hf := by kernel_rfl) (hc := hss _ (hS.rdT c2) (hS.rdT g2)) (h := ?_)); clear hk a; rintro _ w ⟨rfl, hS1⟩ a hk; replace hS := hS.call0 hS1; clear hS1
        (repeat' (first | (show wpListIn _ _ _ _ _ (_ :: _) _ _; first | (refine wx1 ?_; clear hk a; intro a hk) | (refine wx2 ?_ ?_ <;> (intro hp; clear hk a; intro a hk)) | (refine wx3 ?_; clear hk hS a; intro w b hS a hk) | (refine wx4 ?_; clear hk hS a; intro w hS a hk) | (refine wx5 ?_; clear hk hS a; intro w v hS a hk) | fail) | refine wx0 ?_ | (refine s_end hk ?_; clear hk a; intro a hk) | fail))
        by_cases hsl : snapF nmI sl = snapF nmI sl'
        · rw [decide_eq_true hsl] at hii
          refine sg hk (g_callO hk (hf := by kernel_rfl) (hc := hii _ (hS.rdT c3) (hS.rdT g3)) (h := ?_)); clear hk a; rintro _ w ⟨rfl, hS1⟩ a hk; replace hS := hS.call0 hS1; clear hS1
          (repeat' (first | (show wpListIn _ _ _ _ _ (_ :: _) _ _; first | (refine wx1 ?_; clear hk a; intro a hk) | (refine wx2 ?_ ?_ <;> (intro hp; clear hk a; intro a hk)) | (refine wx3 ?_; clear hk hS a; intro w b hS a hk) | (refine wx4 ?_; clear hk hS a; intro w hS a hk) | (refine wx5 ?_; clear hk hS a; intro w v hS a hk) | fail) | refine wx0 ?_ | (refine s_end hk ?_; clear hk a; intro a hk) | fail))
          refine sg hk (g_callO hk (hf := by kernel_rfl) (hc := hee _ (hS.rdT c4) (hS.rdT g4) (hS.rdFo hF) (hS.rdFo hG)) (h := ?_)); clear hk a; rintro _ w ⟨rfl, hS1⟩ a hk; replace hS := hS.call0 hS1; clear hS1
          (repeat' (first | (show wpListIn _ _ _ _ _ (_ :: _) _ _; first | (refine wx1 ?_; clear hk a; intro a hk) | (refine wx2 ?_ ?_ <;> (intro hp; clear hk a; intro a hk)) | (refine wx3 ?_; clear hk hS a; intro w b hS a hk) | (refine wx4 ?_; clear hk hS a; intro w hS a hk) | (refine wx5 ?_; clear hk hS a; intro w v hS a hk) | fail) | refine wx0 ?_ | (refine s_end hk ?_; clear hk a; intro a hk) | fail))
          refine done1 hk (h := ⟨congrArg Value.bool ?_, hS.nil⟩)
          cases hL : samL kids kids' with
          | true => exact (hiff.2 ⟨⟨hb1, hb2, hb3, hb4, ho, hcl, hal, hsl⟩, hL⟩).symm
          | false => exact (sam_false fun hh => by have := (hiff.1 hh).2; rw [hL] at this; cases this).symm
        · rw [decide_eq_false hsl] at hii
          refine sg hk (g_callO hk (hf := by kernel_rfl) (hc := hii _ (hS.rdT c3) (hS.rdT g3)) (h := ?_)); clear hk a; rintro _ w ⟨rfl, hS1⟩ a hk; replace hS := hS.call0 hS1; clear hS1
          (repeat' (first | (show wpListIn _ _ _ _ _ (_ :: _) _ _; first | (refine wx1 ?_; clear hk a; intro a hk) | (refine wx2 ?_ ?_ <;> (intro hp; clear hk a; intro a hk)) | (refine wx3 ?_; clear hk hS a; intro w b hS a hk) | (refine wx4 ?_; clear hk hS a; intro w hS a hk) | (refine wx5 ?_; clear hk hS a; intro w v hS a hk) | fail) | refine wx0 ?_ | (refine s_end hk ?_; clear hk a; intro a hk) | fail))
          exact done1 hk (h := ⟨congrArg Value.bool (sam_false fun hh => hsl (hiff.1 hh).1.2.2.2.2.2.2.2).symm, hS.nil⟩)
      · rw [decide_eq_false hal] at hss
        refine sg hk (g_callO hk (hf := by kernel_rfl) (hc := hss _ (hS.rdT c2) (hS.rdT g2)) (h := ?_)); clear hk a; rintro _ w ⟨rfl, hS1⟩ a hk; replace hS := hS.call0 hS1; clear hS1
        (repeat' (first | (show wpListIn _ _ _ _ _ (_ :: _) _ _; first | (refine wx1 ?_; clear hk a; intro a hk) | (refine wx2 ?_ ?_ <;> (intro hp; clear hk a; intro a hk)) | (refine wx3 ?_; clear hk hS a; intro w b hS a hk) | (refine wx4 ?_; clear hk hS a; intro w hS a hk) | (refine wx5 ?_; clear hk hS a; intro w v hS a hk) | fail) | refine wx0 ?_ | (refine s_end hk ?_; clear hk a; intro a hk) | fail))
        exact done1 hk (h := ⟨congrArg Value.bool (sam_false fun hh => hal (hiff.1 hh).1.2.2.2.2.2.2.1).symm, hS.nil⟩)
    · rw [decide_eq_false hcl] at hcs
      refine sg hk (g_callO hk (hf := by kernel_rfl) (hc := hcs _ (hS.rdT c1) (hS.rdT g1)) (h := ?_)); clear hk a; rintro _ w ⟨rfl, hS1⟩ a hk; replace hS := hS.call0 hS1; clear hS1
      (repeat' (first | (show wpListIn _ _ _ _ _ (_ :: _) _ _; first | (refine wx1 ?_; clear hk a; intro a hk) | (refine wx2 ?_ ?_ <;> (intro hp; clear hk a; intro a hk)) | (refine wx3 ?_; clear hk hS a; intro w b hS a hk) | (refine wx4 ?_; clear hk hS a; intro w hS a hk) | (refine wx5 ?_; clear hk hS a; intro w v hS a hk) | fail) | refine wx0 ?_ | (refine s_end hk ?_; clear hk a; intro a hk) | fail))
      exact done1 hk (h := ⟨congrArg Value.bool (sam_false fun hh => hcl (hiff.1 hh).1.2.2.2.2.2.1).symm, hS.nil⟩)
end Go.Proofs.YtipdgobplfkipaaGreatDoor
