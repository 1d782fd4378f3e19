/- Layer 8, plain: what the reader's walk needs of tokens and words. Layer 8, plain: kids in a row, each with its attributes and styles in a row. Layer 8, plain: what is read of a short text has short lists. Layer 8, plain: how long names and texts of what is read are, and how many nodes it has. Layer 2: what the reference says of texts. -/
import Derived.Test.YtnjmonkehjlaoaaGreatDoorG12
import Derived.Test.YtnjmonkehjlaoaaGreatDoorG05
import Derived.Test.YtnjmonkehjlaoaaGreatDoorG11
import Derived.Test.YtnjmonkehjlaoaaGreatDoorG04
import Derived.Test.YtnjmonkehjlaoaaGreatDoorG08
set_option linter.all false
namespace Go.Proofs.YtnjmonkehjlaoaaGreatDoor
theorem tok_at_ {s : ByteArray} {i : Nat} (hi : i ≤ s.size) : (tokF s i).at_ = scan blkB s i := by
 by_cases hj : scan blkB s i < s.size
 ·by_cases n1 : s[scan blkB s i].toNat = 40
  ·rw [tok_1 hj n1]
  ·by_cases n2 : s[scan blkB s i].toNat = 41
   ·rw [tok_2 hj n2]
   ·by_cases n3 : s[scan blkB s i].toNat = 39
    ·by_cases n4 : scan nqB s (scan blkB s i + 1) < s.size ∧ (s.extract (scan blkB s i + 1) (scan nqB s (scan blkB s i + 1))).data.toList.all priL = true
     ·rw [tok_3 hj n3 n4]
     ·rw [tok_5 hj n3 n4]
    ·by_cases hv : visB s[scan blkB s i] = true
     ·rw [tok_4 hj hv]
     ·rw [tok_6 hj n1 n2 n3 hv]
 ·have h1 := scan_le blkB s _ i (Nat.le_refl _) hi
  rw [tok_e hj];show s.size = _;omega
theorem tok_else {s : ByteArray} {i : Nat} (h : ∀ hj : scan blkB s i < s.size, s[scan blkB s i].toNat ≠ 39 ∧ s[scan blkB s i].toNat ≠ 40 ∧ s[scan blkB s i].toNat ≠ 41) :
  (tokF s i).kind ≠ 1 ∧ (tokF s i).kind ≠ 2 ∧ (tokF s i).kind ≠ 3 := by
 by_cases hj : scan blkB s i < s.size
 ·obtain ⟨n3, n1, n2⟩ := h hj
  by_cases hv : visB s[scan blkB s i] = true
  ·rw [tok_4 hj hv];exact ⟨by show (4 : Nat) ≠ _;decide, by show (4 : Nat) ≠ _;decide, by show (4 : Nat) ≠ _;decide⟩
  ·rw [tok_6 hj n1 n2 n3 hv];exact ⟨by show (5 : Nat) ≠ _;decide, by show (5 : Nat) ≠ _;decide, by show (5 : Nat) ≠ _;decide⟩
 ·rw [tok_e hj];exact ⟨by show (0 : Nat) ≠ _;decide, by show (0 : Nat) ≠ _;decide, by show (0 : Nat) ≠ _;decide⟩
theorem tok_q {s : ByteArray} {i : Nat} (hj : scan blkB s i < s.size) (n3 : s[scan blkB s i].toNat = 39) : (tokF s i).kind = 3 ∨ (tokF s i).kind = 5 := by
 by_cases n4 : scan nqB s (scan blkB s i + 1) < s.size ∧ (s.extract (scan blkB s i + 1) (scan nqB s (scan blkB s i + 1))).data.toList.all priL = true
 ·rw [tok_3 hj n3 n4];exact .inl rfl
 ·rw [tok_5 hj n3 n4];exact .inr rfl
theorem tok_w {s : ByteArray} {i : Nat} (hi : i ≤ s.size) (h : (tokF s i).kind = 4) : 0 < (tokF s i).txt.size ∧ (tokF s i).txt.size ≤ s.size := by
 have hge := scan_ge visB s _ (scan blkB s i) (Nat.le_refl _)
 have hle := scan_le visB s _ (scan blkB s i) (Nat.le_refl _) (scan_le blkB s _ i (Nat.le_refl _) hi)
 by_cases hlt : scan blkB s i < scan visB s (scan blkB s i)
 ·rw [tok_word hlt]
  simp only [ByteArray.size_extract]
  omega
 ·exact absurd h (tok_noword hi (by omega)).1
theorem view_scan (s : ByteArray) (f i op : Nat) : viewF s (f + 1) (scan blkB s i) op = viewF s (f + 1) i op := by
 simp only [viewF]
 rw [tok_scan]
theorem some_len {n m x : Itm} (h : some x = some m) (hx : x.cl.length ≤ n.cl.length + 1 ∧ x.al.length ≤ n.al.length + 1 ∧ x.sl.length ≤ n.sl.length + 1) : m.cl.length ≤ n.cl.length + 1 ∧ m.al.length ≤ n.al.length + 1 ∧ m.sl.length ≤ n.sl.length + 1 := by
 injection h with h;subst h;exact hx
theorem ite_len {n m x : Itm} {p : Prop} [Decidable p] {r : Option Itm} (h : (if p then some x else r) = some m) (hx : x.cl.length ≤ n.cl.length + 1 ∧ x.al.length ≤ n.al.length + 1 ∧ x.sl.length ≤ n.sl.length + 1)
  (hr : r = some m → m.cl.length ≤ n.cl.length + 1 ∧ m.al.length ≤ n.al.length + 1 ∧ m.sl.length ≤ n.sl.length + 1) : m.cl.length ≤ n.cl.length + 1 ∧ m.al.length ≤ n.al.length + 1 ∧ m.sl.length ≤ n.sl.length + 1 := by
 by_cases hp : p
 ·rw [if_pos hp] at h;exact some_len h hx
 ·rw [if_neg hp] at h;exact hr h
theorem add_len {n m : Itm} {w : ByteArray} (h : addF n w = some m) : m.cl.length ≤ n.cl.length + 1 ∧ m.al.length ≤ n.al.length + 1 ∧ m.sl.length ≤ n.sl.length + 1 := by
 have no : (none : Option Itm) = some m → m.cl.length ≤ n.cl.length + 1 ∧ m.al.length ≤ n.al.length + 1 ∧ m.sl.length ≤ n.sl.length + 1 := fun h => by cases h
 unfold addF at h
 cases hw : w.data.toList with
 | nil => rw [hw] at h;cases h
 | cons c q =>
  rw [hw] at h
  simp only at h
  by_cases h35 : c.toNat = 35
  ·rw [if_pos h35] at h;exact ite_len h (by simp) no
  ·rw [if_neg h35] at h
   by_cases h46 : c.toNat = 46
   ·rw [if_pos h46] at h;exact ite_len h (by simp) no
   ·rw [if_neg h46] at h
    by_cases h64 : c.toNat = 64
    ·rw [if_pos h64] at h
     cases hc : cutE (w.extract 1 w.size) with
     | none => rw [hc] at h;cases h
     | some y => obtain ⟨a, v⟩ := y;rw [hc] at h;exact ite_len h (by simp) no
    ·rw [if_neg h64] at h
     by_cases h33 : c.toNat = 33
     ·rw [if_pos h33] at h
      refine ite_len h (by simp) (fun h => ite_len h (by simp) (fun h => ite_len h (by simp) (fun h => ite_len h (by simp) (fun h => ite_len h (by simp) (fun h => ite_len h (by simp) (fun h => ?_))))))
      cases hc : cutE w with
      | none => rw [hc] at h;cases h
      | some y =>
       obtain ⟨a, v⟩ := y
       rw [hc] at h
       simp only at h
       by_cases hk : (numP v.data.toList).2 = true
       ·rw [if_pos hk] at h
        exact ite_len h (by simp) (fun h => ite_len h (by simp) (fun h => ite_len h (by simp) no))
       ·rw [if_neg hk] at h;cases h
     ·rw [if_neg h33] at h
      cases hc : cutE w with
      | none => rw [hc] at h;cases h
      | some y => obtain ⟨a, v⟩ := y;rw [hc] at h;exact ite_len h (by simp) no
theorem item_len {n m : Itm} {w : ByteArray} {seen more : List ByteArray} (h : itemF n w seen = some (m, more)) : m.cl.length ≤ n.cl.length + 1 ∧ m.al.length ≤ n.al.length + 1 ∧ m.sl.length ≤ n.sl.length + 1 := by
 rw [item_from] at h
 cases ha : addF n w with
 | none => rw [ha] at h;cases h
 | some y =>
  rw [ha] at h
  have : y = m := by
   cases hx : whatF w with
   | none => rw [hx] at h;injection h with h;injection h
   | some z =>
    rw [hx] at h
    have h' : (if seen.any (fun y => decide (y = z)) = true then none else some (y, seen ++ [z])) = some (m, more) := h
    split at h'
    ·cases h'
    ·injection h' with h';injection h'
  subst this
  exact add_len ha
mutual
def snapT : Tree → Tree
 | .mk k tag key text cl al sl o kids => .mk k tag key text cl (snapF nmS al) (snapF nmI sl) o (snapTs kids)
def snapTs : List Tree → List Tree
 | [] => []
 | t :: ts => snapT t :: snapTs ts
end
theorem snapTs_app : ∀ (a b : List Tree), snapTs (a ++ b) = snapTs a ++ snapTs b
 | [], b => rfl
 | t :: a, b => by rw [List.cons_append, snapTs, snapTs, snapTs_app a b];rfl
theorem snapTs_len : ∀ a : List Tree, (snapTs a).length = a.length
 | [] => rfl
 | t :: a => by rw [snapTs, List.length_cons, snapTs_len a, List.length_cons]
end Go.Proofs.YtnjmonkehjlaoaaGreatDoor
namespace Go.Proofs.YtnjmonkehjlaoaaGreatDoor
theorem snap_mem {κ α : Type} [Lin κ] (key : α → κ) {l : List α} {x : α} (h : x ∈ snapF key l) : x ∈ l := last_mem key ((snap_last key).1 h)
theorem snapTs_map : ∀ l : List Tree, snapTs l = l.map snapT
 | [] => rfl
 | t :: l => by rw [snapTs, snapTs_map l];rfl
end Go.Proofs.YtnjmonkehjlaoaaGreatDoor
namespace Go.Proofs.YtnjmonkehjlaoaaGreatDoor
open Go.RowKit
theorem view_fits (s : ByteArray) (hs : s.size ≤ 1000) : ∀ (f : Nat), (∀ (i op : Nat) (t : Tree) (j : Nat), viewF s f i op = .ok t j → FitsW t ∧ i < j ∧ j ≤ s.size) ∧
  (∀ (i op : Nat) (n : Itm) (seen : List ByteArray) (kids : List Tree) (t : Tree) (j : Nat), elemF s f i op n seen kids = .ok t j → i ≤ s.size → n.cl.length ≤ i → n.al.length ≤ i → n.sl.length ≤ i → kids.length ≤ i → (∀ x ∈ kids, FitsW x) → FitsW t ∧ i < j ∧ j ≤ s.size)
 | 0 => ⟨(fun i op t j h => by simp only [viewF] at h;cases h), (fun i op n seen kids t j h => by simp only [elemF] at h;cases h)⟩
 | f + 1 => by
  obtain ⟨hv, he⟩ := view_fits s hs f
  refine ⟨fun i op t j h => ?_, fun i op n seen kids t j h hi h1 h2 h3 h4 h5 => ?_⟩
  ·simp only [viewF] at h
   by_cases k3 : (tokF s i).kind = 3
   ·rw [if_pos k3] at h
    injection h with e1 e2
    subst e1 e2
    obtain ⟨a, b⟩ := tok_till (s := s) (i := i) (by omega) (by omega)
    exact ⟨.mk (Nat.zero_le _) (Nat.zero_le _) (Nat.zero_le _) (Nat.zero_le _) (fun x hx => by cases hx), a, b⟩
   ·rw [if_neg k3] at h
    by_cases k1 : (tokF s i).kind = 1
    ·rw [if_pos k1] at h
     by_cases ho : 40 ≤ op
     ·rw [if_pos ho] at h;cases h
     ·rw [if_neg ho] at h
      by_cases hg : (tokF s (tokF s i).till).kind = 4 ∧ nameS (tokF s (tokF s i).till).txt = true
      ·rw [if_pos hg] at h
       obtain ⟨a, b⟩ := tok_till (s := s) (i := i) (by omega) (by omega)
       obtain ⟨c, d⟩ := tok_till (s := s) (i := (tokF s i).till) (by omega) (by omega)
       obtain ⟨g1, g2, g3⟩ := he _ _ _ _ _ _ _ h d (Nat.zero_le _) (Nat.zero_le _) (Nat.zero_le _) (Nat.zero_le _) (fun x hx => by cases hx)
       exact ⟨g1, by omega, g3⟩
      ·rw [if_neg hg] at h;cases h
    ·rw [if_neg k1] at h;cases h
  ·simp only [elemF] at h
   by_cases k2 : (tokF s i).kind = 2
   ·rw [if_pos k2] at h
    injection h with e1 e2
    subst e1 e2
    obtain ⟨a, b⟩ := tok_till (s := s) (i := i) (by omega) (by omega)
    exact ⟨.mk (by omega) (by omega) (by omega) (by omega) h5, a, b⟩
   ·rw [if_neg k2] at h
    by_cases k4 : (tokF s i).kind = 4
    ·rw [if_pos k4] at h
     obtain ⟨a, b⟩ := tok_till (s := s) (i := i) (by omega) (by omega)
     cases hit : itemF n (tokF s i).txt seen with
     | none => rw [hit] at h;cases h
     | some y =>
      obtain ⟨m, more⟩ := y
      rw [hit] at h
      simp only at h
      obtain ⟨l1, l2, l3⟩ := item_len hit
      obtain ⟨g1, g2, g3⟩ := he _ _ _ _ _ _ _ h b (by omega) (by omega) (by omega) (by omega) h5
      exact ⟨g1, by omega, g3⟩
    ·rw [if_neg k4] at h
     cases hvf : viewF s f i op with
     | ok k q =>
      rw [hvf] at h
      simp only at h
      obtain ⟨c1, c2, c3⟩ := hv _ _ _ _ hvf
      obtain ⟨g1, g2, g3⟩ := he _ _ _ _ _ _ _ h c3 (by omega) (by omega) (by omega) (by rw [List.length_append, List.length_cons, List.length_nil];omega) (fun x hx => by
       rcases List.mem_append.1 hx with hx | hx
       ·exact h5 x hx
       ·rw [List.mem_singleton] at hx;subst hx;exact c1)
      exact ⟨g1, by omega, g3⟩
     | no a e => rw [hvf] at h;cases h
theorem parse_fits {s : ByteArray} (hs : s.size ≤ 1000) {t : Tree} {j : Nat} (h : parseF s = .ok t j) : FitsW t := by
 unfold parseF at h
 rw [if_neg (by omega)] at h
 cases hv : viewF s (2 * s.size + 2) 0 0 with
 | ok u q =>
  rw [hv] at h
  simp only at h
  split at h
  ·injection h with h _
   subst h
   exact ((view_fits s hs _).1 _ _ _ _ hv).1
  ·cases h
 | no a e => rw [hv] at h;cases h
theorem fitw_snapN : ∀ (n : Nat) (t : Tree), SizeOf.sizeOf t < n → FitsW t → FitsW (snapT t)
 | 0, t, h, _ => absurd h (by omega)
 | n + 1, .mk k tag key text cl al sl o kids, h, hp => by
  cases hp with
  | mk h1 h2 h3 h4 h5 =>
  rw [snapT]
  refine .mk h1 (by have := snap_len nmS al;omega) (by have := snap_len nmI sl;omega) (by rw [snapTs_len];exact h4) ?_
  intro t ht
  rw [snapTs_map] at ht
  obtain ⟨u, hu, rfl⟩ := List.mem_map.1 ht
  refine fitw_snapN n u ?_ (h5 u hu)
  have := List.sizeOf_lt_of_mem hu
  simp only [Tree.mk.sizeOf_spec] at h
  omega
theorem fitw_snap {t : Tree} (h : FitsW t) : FitsW (snapT t) := fitw_snapN _ t (Nat.lt_succ_self _) h
end Go.Proofs.YtnjmonkehjlaoaaGreatDoor
namespace Go.Proofs.YtnjmonkehjlaoaaGreatDoor
open Go.RowKit
abbrev szX : Nat := 1000
structure ItZ (n : Itm) : Prop where
 tag : n.tag.size ≤ szX
 key : n.key.size ≤ szX
 cl : ∀ c ∈ n.cl, c.size ≤ szX
 al : ∀ x ∈ n.al, x.1.size ≤ szX ∧ x.2.size ≤ szX
 sl : ∀ x ∈ n.sl, x.1.size ≤ szX
theorem keyZ {s : ByteArray} (h : keyS s = true) : s.size ≤ szX := by
 unfold keyS at h
 simp only [Bool.and_eq_true, decide_eq_true_eq] at h
 unfold szX;omega
theorem nameZ {s : ByteArray} (h : nameS s = true) : s.size ≤ szX := by
 unfold nameS at h
 rw [Bool.and_eq_true] at h
 exact keyZ h.1
theorem valZ {s : ByteArray} (h : valS s = true) : s.size ≤ szX := by
 unfold valS at h
 simp only [Bool.and_eq_true, decide_eq_true_eq] at h
 unfold szX;omega
theorem appZ {α : Type} {p : α → Prop} {l : List α} {x : α} (h : ∀ c ∈ l, p c) (hx : p x) : ∀ c ∈ l ++ [x], p c := fun c hc => by
 rcases List.mem_append.1 hc with hc | hc
 ·exact h c hc
 ·rw [List.mem_singleton] at hc;subst hc;exact hx
theorem ite_k {p : Prop} [Decidable p] {a b : Option Itm} {m : Itm} {Q : Prop} (h : (if p then a else b) = some m) (h1 : p → a = some m → Q) (h2 : ¬ p → b = some m → Q) : Q := by
 by_cases hp : p
 ·rw [if_pos hp] at h;exact h1 hp h
 ·rw [if_neg hp] at h;exact h2 hp h
theorem add_siz {n m : Itm} {w : ByteArray} (h : addF n w = some m) (hn : ItZ n) : ItZ m := by
 have sm : ∀ {x : Itm}, some x = some m → ItZ x → ItZ m := fun h hx => by injection h with h;subst h;exact hx
 have no : (none : Option Itm) = some m → ItZ m := fun h => by cases h
 unfold addF at h
 cases hw : w.data.toList with
 | nil => rw [hw] at h;cases h
 | cons c q =>
  rw [hw] at h
  simp only at h
  refine ite_k h (fun _ h => ite_k h (fun hk h => sm h ⟨hn.tag, keyZ hk, hn.cl, hn.al, hn.sl⟩) (fun _ h => no h)) (fun _ h => ?_)
  refine ite_k h (fun _ h => ite_k h (fun hk h => sm h ⟨hn.tag, hn.key, appZ hn.cl (nameZ hk), hn.al, hn.sl⟩) (fun _ h => no h)) (fun _ h => ?_)
  refine ite_k h (fun _ h => ?_) (fun _ h => ?_)
  ·cases hc : cutE (w.extract 1 w.size) with
   | none => rw [hc] at h;cases h
   | some y =>
    obtain ⟨a, v⟩ := y
    rw [hc] at h
    exact ite_k h (fun hk h => sm h ⟨hn.tag, hn.key, hn.cl, appZ hn.al ⟨nameZ hk.1, valZ hk.2⟩, hn.sl⟩) (fun _ h => no h)
  ·refine ite_k h (fun _ h => ?_) (fun _ h => ?_)
   ·refine ite_k h (fun _ h => sm h ⟨hn.tag, hn.key, hn.cl, hn.al, hn.sl⟩) (fun _ h => ?_)
    refine ite_k h (fun _ h => sm h ⟨hn.tag, hn.key, hn.cl, hn.al, hn.sl⟩) (fun _ h => ?_)
    refine ite_k h (fun _ h => sm h ⟨hn.tag, hn.key, hn.cl, hn.al, hn.sl⟩) (fun _ h => ?_)
    refine ite_k h (fun _ h => sm h ⟨hn.tag, hn.key, hn.cl, hn.al, hn.sl⟩) (fun _ h => ?_)
    refine ite_k h (fun _ h => sm h ⟨hn.tag, hn.key, hn.cl, hn.al, hn.sl⟩) (fun _ h => ?_)
    refine ite_k h (fun _ h => sm h ⟨hn.tag, hn.key, hn.cl, hn.al, hn.sl⟩) (fun _ h => ?_)
    cases hc : cutE w with
    | none => rw [hc] at h;cases h
    | some y =>
     obtain ⟨a, v⟩ := y
     rw [hc] at h
     refine ite_k h (fun _ h => ?_) (fun _ h => no h)
     refine ite_k h (fun _ h => sm h ⟨hn.tag, hn.key, hn.cl, hn.al, hn.sl⟩) (fun _ h => ?_)
     refine ite_k h (fun _ h => sm h ⟨hn.tag, hn.key, hn.cl, hn.al, hn.sl⟩) (fun _ h => ?_)
     exact ite_k h (fun _ h => sm h ⟨hn.tag, hn.key, hn.cl, hn.al, hn.sl⟩) (fun _ h => no h)
   ·cases hc : cutE w with
    | none => rw [hc] at h;cases h
    | some y =>
     obtain ⟨a, v⟩ := y
     rw [hc] at h
     exact ite_k h (fun hk h => sm h ⟨hn.tag, hn.key, hn.cl, hn.al, appZ hn.sl (nameZ hk.1)⟩) (fun _ h => no h)
theorem item_siz {n m : Itm} {w : ByteArray} {seen more : List ByteArray} (h : itemF n w seen = some (m, more)) (hn : ItZ n) : ItZ m := by
 unfold itemF at h
 cases ha : addF n w with
 | none => rw [ha] at h;cases h
 | some y =>
  rw [ha] at h
  have := add_siz ha hn
  simp only at h
  repeat' split at h
  all_goals first
   | (cases h;done)
   | (injection h with h;injection h with h _;subst h;exact this)
theorem tok_txt (s : ByteArray) (i : Nat) : (tokF s i).txt.size ≤ s.size := by
 have hx : ∀ a b, (s.extract a b).size ≤ s.size := fun a b => by rw [ByteArray.size_extract];omega
 unfold tokF
 simp only
 repeat' split
 all_goals first
  | exact hx _ _
  | exact Nat.zero_le _
theorem view_sc (s : ByteArray) (hs : s.size ≤ 1000) : ∀ (f : Nat), (∀ (i op : Nat) (t : Tree) (j : Nat), viewF s f i op = .ok t j → Siz szX t ∧ cnt t + i ≤ j) ∧
  (∀ (i op : Nat) (n : Itm) (seen : List ByteArray) (kids : List Tree) (t : Tree) (j : Nat), elemF s f i op n seen kids = .ok t j → ItZ n → (∀ x ∈ kids, Siz szX x) → Siz szX t ∧ cnt t + i ≤ j + cntL kids)
 | 0 => ⟨(fun i op t j h => by simp only [viewF] at h;cases h), (fun i op n seen kids t j h => by simp only [elemF] at h;cases h)⟩
 | f + 1 => by
  obtain ⟨hv, he⟩ := view_sc s hs f
  refine ⟨fun i op t j h => ?_, fun i op n seen kids t j h h1 h5 => ?_⟩
  ·simp only [viewF] at h
   by_cases k3 : (tokF s i).kind = 3
   ·rw [if_pos k3] at h
    injection h with e1 e2
    subst e1 e2
    obtain ⟨a, b⟩ := tok_till (s := s) (i := i) (by omega) (by omega)
    have htx := tok_txt s i
    exact ⟨.mk (Nat.zero_le _) (Nat.zero_le _) (by unfold szX;omega) (fun x hx => by cases hx) (fun x hx => by cases hx) (fun x hx => by cases hx) (fun x hx => by cases hx), by simp only [cnt, cntL];omega⟩
   ·rw [if_neg k3] at h
    by_cases k1 : (tokF s i).kind = 1
    ·rw [if_pos k1] at h
     by_cases ho : 40 ≤ op
     ·rw [if_pos ho] at h;cases h
     ·rw [if_neg ho] at h
      by_cases hg : (tokF s (tokF s i).till).kind = 4 ∧ nameS (tokF s (tokF s i).till).txt = true
      ·rw [if_pos hg] at h
       obtain ⟨a, b⟩ := tok_till (s := s) (i := i) (by omega) (by omega)
       obtain ⟨c, d⟩ := tok_till (s := s) (i := (tokF s i).till) (by omega) (by omega)
       obtain ⟨g1, g2⟩ := he _ _ _ _ _ _ _ h ⟨nameZ hg.2, Nat.zero_le _, (fun x hx => by cases hx), (fun x hx => by cases hx), (fun x hx => by cases hx)⟩ (fun x hx => by cases hx)
       simp only [cntL] at g2
       exact ⟨g1, by omega⟩
      ·rw [if_neg hg] at h;cases h
    ·rw [if_neg k1] at h;cases h
  ·simp only [elemF] at h
   by_cases k2 : (tokF s i).kind = 2
   ·rw [if_pos k2] at h
    injection h with e1 e2
    subst e1 e2
    obtain ⟨a, b⟩ := tok_till (s := s) (i := i) (by omega) (by omega)
    exact ⟨.mk h1.tag h1.key (Nat.zero_le _) h1.cl h1.al h1.sl h5, by simp only [Itm.tree, cnt];omega⟩
   ·rw [if_neg k2] at h
    by_cases k4 : (tokF s i).kind = 4
    ·rw [if_pos k4] at h
     obtain ⟨a, b⟩ := tok_till (s := s) (i := i) (by omega) (by omega)
     cases hit : itemF n (tokF s i).txt seen with
     | none => rw [hit] at h;cases h
     | some y =>
      obtain ⟨m, more⟩ := y
      rw [hit] at h
      simp only at h
      obtain ⟨g1, g2⟩ := he _ _ _ _ _ _ _ h (item_siz hit h1) h5
      exact ⟨g1, by omega⟩
    ·rw [if_neg k4] at h
     cases hvf : viewF s f i op with
     | ok k q =>
      rw [hvf] at h
      simp only at h
      obtain ⟨c1, c2⟩ := hv _ _ _ _ hvf
      obtain ⟨g1, g2⟩ := he _ _ _ _ _ _ _ h h1 (fun x hx => by
       rcases List.mem_append.1 hx with hx | hx
       ·exact h5 x hx
       ·rw [List.mem_singleton] at hx;subst hx;exact c1)
      rw [cntL_app] at g2
      simp only [cntL] at g2
      exact ⟨g1, by omega⟩
     | no a e => rw [hvf] at h;cases h
theorem view_end (s : ByteArray) {f i op : Nat} {t : Tree} {j : Nat} (h : viewF s f i op = .ok t j) : j ≤ s.size := ((view_pos s f).1 _ _ _ _ h).2
theorem parse_sc {s : ByteArray} (hs : s.size ≤ 1000) {t : Tree} {j : Nat} (h : parseF s = .ok t j) : Siz szX t ∧ cnt t ≤ 1000 := by
 unfold parseF at h
 rw [if_neg (by omega)] at h
 cases hv : viewF s (2 * s.size + 2) 0 0 with
 | ok u q =>
  rw [hv] at h
  simp only at h
  split at h
  ·injection h with h _
   subst h
   obtain ⟨h1, h2⟩ := (view_sc s hs _).1 _ _ _ _ hv
   have := view_end s hv
   exact ⟨h1, by omega⟩
  ·cases h
 | no a e => rw [hv] at h;cases h
theorem snap_scN : ∀ (n : Nat) (t : Tree), SizeOf.sizeOf t < n → Siz szX t → Siz szX (snapT t) ∧ cnt (snapT t) = cnt t
 | 0, t, h, _ => absurd h (by omega)
 | n + 1, .mk k tag key text cl al sl o kids, h, hp => by
  cases hp with
  | mk h1 h2 h3 h4 h5 h6 h7 =>
  have hk : ∀ u ∈ kids, Siz szX (snapT u) ∧ cnt (snapT u) = cnt u := fun u hu => snap_scN n u (by
   have := kid_lt (k := k) (tag := tag) (key := key) (text := text) (cl := cl) (at_ := al) (st := sl) (o := o) hu
   omega) (h7 u hu)
  have hc : ∀ l : List Tree, (∀ u ∈ l, cnt (snapT u) = cnt u) → cntL (l.map snapT) = cntL l := by
   intro l
   induction l with
   | nil => intro _;rfl
   | cons u l ih => intro hu;simp only [List.map_cons, cntL];rw [hu u (by simp), ih (fun x hx => hu x (by simp [hx]))]
  rw [snapT, snapTs_map]
  refine ⟨.mk h1 h2 h3 h4 (fun x hx => h5 x (snap_mem nmS hx)) (fun x hx => h6 x (snap_mem nmI hx)) (fun u hu => ?_), ?_⟩
  ·obtain ⟨v, hv, rfl⟩ := List.mem_map.1 hu
   exact (hk v hv).1
  ·simp only [cnt];rw [hc kids (fun u hu => (hk u hu).2)]
theorem snap_sc {t : Tree} (h : Siz szX t) : Siz szX (snapT t) ∧ cnt (snapT t) = cnt t := snap_scN _ t (Nat.lt_succ_self _) h
end Go.Proofs.YtnjmonkehjlaoaaGreatDoor
namespace Go.Proofs.YtnjmonkehjlaoaaGreatDoor
open Go.RowKit
set_option maxRecDepth 100000
attribute [local irreducible] Go.Code.wpIn Go.wpListIn Go.Calls Gives Go.Exit.then Go.Exit.inBlock Done ObxE
theorem rplain_any (b : UInt8) (w0 : World) : Calls Tryz.prog 116 #[.int .u8 (b.toNat : Nat)] w0 (Ret fun v w => v = .bool (plaB b) ∧ St w0 [] w) := by
 refine enter Tryz.func116 rfl Tryz.ntmps116 rfl (fun a hk => ?_);have hS := St.refl w0
 (repeat' (first|((first|refine wx1 ?_|refine wx2 ?_ ?_<;>intro hp|refine s_end hk ?_)<;>(clear hk a;intro a hk))|((first|refine wx3 ?_;intro w b|refine wx4 ?_;intro w|refine wx5 ?_;intro w v);clear hk hS a;intro hS a hk)|refine wx0 ?_|fail))
 all_goals exact done1 hk (h := ⟨by unfold plaB;first | rw [decide_eq_true (by omega)] | rw [decide_eq_false (by omega)], hS.nil⟩)
theorem rkey_any (s : ByteArray) (hs : s.size ≤ 1000) (w0 : World) : Calls Tryz.prog 78 #[.string s] w0 (Ret fun v w => v = .bool (keyS s) ∧ St w0 [] w) := by
 refine enter Tryz.func78 rfl Tryz.ntmps78 rfl (fun a hk => ?_);have hS := St.refl w0
 (repeat' (first|((first|refine wx1 ?_|refine wx2 ?_ ?_<;>intro hp|refine s_end hk ?_)<;>(clear hk a;intro a hk))|((first|refine wx3 ?_;intro w b|refine wx4 ?_;intro w|refine wx5 ?_;intro w v);clear hk hS a;intro hS a hk)|refine wx0 ?_|fail))
 replace hk := Kn.kp [0, 3] hk
 refine wp_for s.size (fun i _ => [(3, .int .i64 (i : Int))]) (fun _ _ => []) (fun i _ => (s.data.toList.take i).all plaB = true) () hk skx hS.sb (by simp) ?_
 clear hk hS a
 rintro i - a w hi hk hS hF
 by_cases hil : i < s.size
 ·have htk := all_take hil plaB
  (repeat' (first|((first|refine wx1 ?_|refine wx2 ?_ ?_<;>intro hp|refine s_end hk ?_)<;>(clear hk a;intro a hk))|((first|refine wx3 ?_;intro w b|refine wx4 ?_;intro w|refine wx5 ?_;intro w v);clear hk hS a;intro hS a hk)|refine wx0 ?_|fail))
  refine sg hk (g_callO hk (hf := by kernel_rfl) (hc := rplain_any s[i] _) (h := ?_));clear hk a;rintro _ w ⟨rfl, hS1⟩ a hk;replace hS := hS.call0 hS1;clear hS1
  cases hb : plaB s[i] with
  | true =>
   rw [hb] at hk
   (repeat' (first|((first|refine wx1 ?_|refine wx2 ?_ ?_<;>intro hp|refine s_end hk ?_)<;>(clear hk a;intro a hk))|((first|refine wx3 ?_;intro w b|refine wx4 ?_;intro w|refine wx5 ?_;intro w v);clear hk hS a;intro hS a hk)|refine wx0 ?_|fail))
   exact ⟨hil, (), hk.sd, hS.sb, by rw [htk, hF, hb];rfl⟩
  | false =>
   rw [hb] at hk
   (repeat' (first|((first|refine wx1 ?_|refine wx2 ?_ ?_<;>intro hp|refine s_end hk ?_)<;>(clear hk a;intro a hk))|((first|refine wx3 ?_;intro w b|refine wx4 ?_;intro w|refine wx5 ?_;intro w v);clear hk hS a;intro hS a hk)|refine wx0 ?_|fail))
   exact done1 hk (h := ⟨by unfold keyS;rw [all_no hil hb];simp, hS.nil⟩)
 ·have : i = s.size := by omega
  subst this
  rw [all_full] at hF
  (repeat' (first|((first|refine wx1 ?_|refine wx2 ?_ ?_<;>intro hp|refine s_end hk ?_)<;>(clear hk a;intro a hk))|((first|refine wx3 ?_;intro w b|refine wx4 ?_;intro w|refine wx5 ?_;intro w v);clear hk hS a;intro hS a hk)|refine wx0 ?_|fail))
  all_goals exact done1 hk (h := ⟨by unfold keyS;rw [hF];first | rw [decide_eq_true (by omega)];rfl | rw [decide_eq_false (by omega)];rfl, hS.nil⟩)
theorem rname_any (s : ByteArray) (hs : s.size ≤ 1000) (w0 : World) : Calls Tryz.prog 45 #[.string s] w0 (Ret fun v w => v = .bool (nameS s) ∧ St w0 [] w) := by
  refine enter Tryz.func45 rfl Tryz.ntmps45 rfl (fun a hk => ?_); have hS := St.refl w0
  (repeat' (first|((first|refine wx1 ?_|refine wx2 ?_ ?_<;>intro hp|refine s_end hk ?_)<;>(clear hk a;intro a hk))|((first|refine wx3 ?_;intro w b|refine wx4 ?_;intro w|refine wx5 ?_;intro w v);clear hk hS a;intro hS a hk)|refine wx0 ?_|fail))
  refine sg hk (g_callO hk (hf := by kernel_rfl) (hc := rkey_any s hs _) (h := ?_)); clear hk a; rintro _ w ⟨rfl, hS1⟩ a hk; replace hS := hS.call0 hS1; clear hS1
  cases h : keyS s with
  | false =>
    rw [h] at hk
    (repeat' (first|((first|refine wx1 ?_|refine wx2 ?_ ?_<;>intro hp|refine s_end hk ?_)<;>(clear hk a;intro a hk))|((first|refine wx3 ?_;intro w b|refine wx4 ?_;intro w|refine wx5 ?_;intro w v);clear hk hS a;intro hS a hk)|refine wx0 ?_|fail))
    exact done1 hk (h := ⟨by unfold nameS; rw [h]; rfl, hS.nil⟩)
  | true =>
    rw [h] at hk
    have h0 : 0 < s.size := by unfold keyS at h; simp at h; omega
    have hp : plaB s[0] = true := by
      have h2 : s.data.toList.all plaB = true := by unfold keyS at h; simp only [Bool.and_eq_true] at h; exact h.2
      exact List.all_eq_true.1 h2 _ (List.mem_of_getElem? (byte_at h0))
    unfold plaB at hp
    simp only [decide_eq_true_eq] at hp
    (repeat' (first|((first|refine wx1 ?_|refine wx2 ?_ ?_<;>intro hp|refine s_end hk ?_)<;>(clear hk a;intro a hk))|((first|refine wx3 ?_;intro w b|refine wx4 ?_;intro w|refine wx5 ?_;intro w v);clear hk hS a;intro hS a hk)|refine wx0 ?_|fail))
    (repeat' (first|((first|refine wx1 ?_|refine wx2 ?_ ?_<;>intro hp|refine s_end hk ?_)<;>(clear hk a;intro a hk))|((first|refine wx3 ?_;intro w b|refine wx4 ?_;intro w|refine wx5 ?_;intro w v);clear hk hS a;intro hS a hk)|refine wx0 ?_|fail))
    all_goals first
      | (have hq : (97 : Int) ≤ ((s[0]'h0).toNat : Nat) := by assumption
         exact done1 hk (h := ⟨by unfold nameS; rw [h, head_at h0]; unfold letB; rw [decide_eq_true (by omega)]; rfl, hS.nil⟩))
      | (have hq : ¬ (97 : Int) ≤ ((s[0]'h0).toNat : Nat) := by assumption
         exact done1 hk (h := ⟨by unfold nameS; rw [h, head_at h0]; unfold letB; rw [decide_eq_false (by omega)]; rfl, hS.nil⟩))
theorem rvalue_any (s : ByteArray) (hs : s.size ≤ 1000) (w0 : World) : Calls Tryz.prog 81 #[.string s] w0 (Ret fun v w => v = .bool (valS s) ∧ St w0 [] w) := by
 refine enter Tryz.func81 rfl Tryz.ntmps81 rfl (fun a hk => ?_);have hS := St.refl w0
 (repeat' (first|((first|refine wx1 ?_|refine wx2 ?_ ?_<;>intro hp|refine s_end hk ?_)<;>(clear hk a;intro a hk))|((first|refine wx3 ?_;intro w b|refine wx4 ?_;intro w|refine wx5 ?_;intro w v);clear hk hS a;intro hS a hk)|refine wx0 ?_|fail))
 replace hk := Kn.kp [0, 3] hk
 refine wp_for s.size (fun i _ => [(3, .int .i64 (i : Int))]) (fun _ _ => []) (fun i _ => (s.data.toList.take i).all visB = true) () hk skx hS.sb (by simp) ?_
 clear hk hS a
 rintro i - a w hi hk hS hF
 by_cases hil : i < s.size
 ·have htk := all_take hil visB
  (repeat' (first|((first|refine wx1 ?_|refine wx2 ?_ ?_<;>intro hp|refine s_end hk ?_)<;>(clear hk a;intro a hk))|((first|refine wx3 ?_;intro w b|refine wx4 ?_;intro w|refine wx5 ?_;intro w v);clear hk hS a;intro hS a hk)|refine wx0 ?_|fail))
  all_goals first
   | exact ⟨hil, (), hk.sd, hS.sb, by rw [htk, hF];unfold visB;rw [decide_eq_true (by omega)];rfl⟩
   | exact done1 hk (h := ⟨by unfold valS;rw [all_no hil (by unfold visB;rw [decide_eq_false (by omega)])];simp, hS.nil⟩)
 ·have : i = s.size := by omega
  subst this
  rw [all_full] at hF
  (repeat' (first|((first|refine wx1 ?_|refine wx2 ?_ ?_<;>intro hp|refine s_end hk ?_)<;>(clear hk a;intro a hk))|((first|refine wx3 ?_;intro w b|refine wx4 ?_;intro w|refine wx5 ?_;intro w v);clear hk hS a;intro hS a hk)|refine wx0 ?_|fail))
  all_goals exact done1 hk (h := ⟨by unfold valS;rw [hF];first | rw [decide_eq_true (by omega)];rfl | rw [decide_eq_false (by omega)];rfl, hS.nil⟩)
theorem rtext_any (s : ByteArray) (hs : s.size ≤ 1000) (w0 : World) : Calls Tryz.prog 92 #[.string s] w0 (Ret fun v w => v = .bool (txtS s) ∧ St w0 [] w) := by
 refine enter Tryz.func92 rfl Tryz.ntmps92 rfl (fun a hk => ?_);have hS := St.refl w0
 (repeat' (first|((first|refine wx1 ?_|refine wx2 ?_ ?_<;>intro hp|refine s_end hk ?_)<;>(clear hk a;intro a hk))|((first|refine wx3 ?_;intro w b|refine wx4 ?_;intro w|refine wx5 ?_;intro w v);clear hk hS a;intro hS a hk)|refine wx0 ?_|fail))
 replace hk := Kn.kp [0, 3] hk
 refine wp_for s.size (fun i _ => [(3, .int .i64 (i : Int))]) (fun _ _ => []) (fun i _ => (s.data.toList.take i).all priB = true) () hk skx hS.sb (by simp) ?_
 clear hk hS a
 rintro i - a w hi hk hS hF
 by_cases hil : i < s.size
 ·have htk := all_take hil priB
  (repeat' (first|((first|refine wx1 ?_|refine wx2 ?_ ?_<;>intro hp|refine s_end hk ?_)<;>(clear hk a;intro a hk))|((first|refine wx3 ?_;intro w b|refine wx4 ?_;intro w|refine wx5 ?_;intro w v);clear hk hS a;intro hS a hk)|refine wx0 ?_|fail))
  all_goals first
   | exact ⟨hil, (), hk.sd, hS.sb, by rw [htk, hF];unfold priB;rw [decide_eq_true (by omega)];rfl⟩
   | exact done1 hk (h := ⟨by unfold txtS;rw [all_no hil (by unfold priB;rw [decide_eq_false (by omega)])];simp, hS.nil⟩)
 ·have : i = s.size := by omega
  subst this
  rw [all_full] at hF
  (repeat' (first|((first|refine wx1 ?_|refine wx2 ?_ ?_<;>intro hp|refine s_end hk ?_)<;>(clear hk a;intro a hk))|((first|refine wx3 ?_;intro w b|refine wx4 ?_;intro w|refine wx5 ?_;intro w v);clear hk hS a;intro hS a hk)|refine wx0 ?_|fail))
  all_goals exact done1 hk (h := ⟨by unfold txtS;rw [hF];first | rw [decide_eq_true (by omega)];rfl | rw [decide_eq_false (by omega)];rfl, hS.nil⟩)
theorem rreserved_any (s : ByteArray) (w0 : World) : Calls Tryz.prog 55 #[.string s] w0 (Ret fun v w => v = .bool (rsvS s) ∧ St w0 [] w) := by
 refine enter Tryz.func55 rfl Tryz.ntmps55 rfl (fun a hk => ?_);have hS := St.refl w0
 by_cases h : 2 ≤ s.size
 ·(repeat' (first|((first|refine wx1 ?_|refine wx2 ?_ ?_<;>intro hp|refine s_end hk ?_)<;>(clear hk a;intro a hk))|((first|refine wx3 ?_;intro w b|refine wx4 ?_;intro w|refine wx5 ?_;intro w v);clear hk hS a;intro hS a hk)|refine wx0 ?_|fail))
  all_goals first
   | exact done1 hk (h := ⟨by unfold rsvS;rw [decide_eq_true ⟨h, by simpa using (by assumption)⟩], hS.nil⟩)
   | exact done1 hk (h := ⟨by unfold rsvS;rw [decide_eq_false (fun e => absurd e.2 (by simpa using (by assumption)))], hS.nil⟩)
 ·(repeat' (first|((first|refine wx1 ?_|refine wx2 ?_ ?_<;>intro hp|refine s_end hk ?_)<;>(clear hk a;intro a hk))|((first|refine wx3 ?_;intro w b|refine wx4 ?_;intro w|refine wx5 ?_;intro w v);clear hk hS a;intro hS a hk)|refine wx0 ?_|fail))
  exact done1 hk (h := ⟨by unfold rsvS;rw [decide_eq_false (fun e => h e.1)], hS.nil⟩)
end Go.Proofs.YtnjmonkehjlaoaaGreatDoor
