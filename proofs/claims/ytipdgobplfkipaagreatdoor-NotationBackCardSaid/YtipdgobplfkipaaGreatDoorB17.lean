/- Layer 8, plain: an element's words, read again. Layer 8, plain: what is written is read again. Layer 8, plain: a written view's text is its tokens, spelled out; read again it is that view. Texts are cut. Layer 4's reference, and what the statements of later layers begin with. -/
import Derived.Test.YtipdgobplfkipaaGreatDoorB16
import Derived.Lib.ItoaLen
import Derived.Test.YtipdgobplfkipaaGreatDoorB06
import Derived.Test.YtipdgobplfkipaaGreatDoorB10
set_option linter.all false
namespace Go.Proofs.YtipdgobplfkipaaGreatDoor

theorem one_list (c : UInt8) (x : ByteArray) : ((⟨#[c]⟩ : ByteArray) ++ x).data.toList = c :: x.data.toList := by simp [ByteArray.data_append]
theorem one_rest (c : UInt8) (x : ByteArray) : ((⟨#[c]⟩ : ByteArray) ++ x).extract 1 ((⟨#[c]⟩ : ByteArray) ++ x).size = x := by
  have h : ((⟨#[c]⟩ : ByteArray) ++ x).data.toList.drop 1 = x.data.toList ++ [] := by rw [one_list]; simp
  have h1 := ext_mid (i := 1) h
  have h2 : ((⟨#[c]⟩ : ByteArray) ++ x).size = 1 + x.size := by rw [ByteArray.size_append]; rfl
  rw [h2]; exact h1
def neB (b : UInt8) : Bool := !decide (b.toNat = 61)
theorem cut_eq {a v : ByteArray} (ha : a.data.toList.all neB = true) : cutE (a ++ ⟨#[61]⟩ ++ v) = some (a, v) := by
  have hl : (a ++ ⟨#[61]⟩ ++ v).data.toList = a.data.toList ++ 61 :: v.data.toList := by simp [ByteArray.data_append]
  have hd : (a ++ ⟨#[61]⟩ ++ v).data.toList.drop 0 = a.data.toList ++ (61 :: v.data.toList) := by rw [List.drop_zero, hl]
  have e := scan_run neB _ _ _ 0 hd ha (fun c r he => by injection he with e _; rw [← e]; rfl)
  have hlen : a.data.toList.length = a.size := by simp
  rw [hlen, Nat.zero_add] at e
  have hx := ext_mid hd
  rw [Nat.zero_add] at hx
  have hr := dr_app hd
  rw [hlen, Nat.zero_add] at hr
  obtain ⟨hi, _, hr2⟩ := dr_head hr
  have hv := ext_mid (x := v) (post := []) (i := a.size + 1) (s := a ++ ⟨#[61]⟩ ++ v) (by rw [hr2]; simp)
  have hsz : (a ++ ⟨#[61]⟩ ++ v).size = a.size + 1 + v.size := by rw [ByteArray.size_append, ByteArray.size_append]; rfl
  unfold cutE
  have e' : scan (fun b => !decide (b.toNat = 61)) (a ++ ⟨#[61]⟩ ++ v) 0 = a.size := e
  simp only [e']
  rw [if_pos hi, hx, hsz, hv]
theorem pla_ne {b : UInt8} (h : plaB b = true) : neB b = true := by
  unfold plaB at h
  unfold neB
  rw [decide_eq_true_eq] at h
  simp only [Bool.not_eq_true', decide_eq_false_iff_not]
  omega
theorem name_ne {a : ByteArray} (h : nameS a = true) : a.data.toList.all neB = true := by
  unfold nameS keyS at h
  simp only [Bool.and_eq_true] at h
  have h2 := h.1.2
  rw [List.all_eq_true] at h2 ⊢
  exact fun x hx => pla_ne (h2 x hx)
theorem name_head {a : ByteArray} (h : nameS a = true) : ∃ c r, a.data.toList = c :: r ∧ letB c = true := by
  unfold nameS at h
  rw [Bool.and_eq_true] at h
  have h2 := h.2
  cases hl : a.data.toList with
  | nil => rw [hl] at h2; cases h2
  | cons c r => rw [hl] at h2; exact ⟨c, r, rfl, h2⟩

def addsF : Itm → List ByteArray → Option Itm
  | n, [] => some n
  | n, w :: r => match addF n w with
    | some m => addsF m r
    | none => none
theorem adds_app {n m : Itm} : ∀ {a b : List ByteArray}, addsF n a = some m → addsF n (a ++ b) = addsF m b
  | [], b, h => by injection h with h; rw [h]; rfl
  | w :: a, b, h => by
    rw [addsF] at h
    rw [List.cons_append, addsF]
    cases ha : addF n w with
    | none => rw [ha] at h; cases h
    | some k => rw [ha] at h; exact adds_app (n := k) h
theorem add_key {n : Itm} {key : ByteArray} (h : keyS key = true) : addF n (⟨#[35]⟩ ++ key) = some { n with key := key } := by
  unfold addF
  rw [one_list]
  simp only
  rw [if_pos (by decide), one_rest, if_pos h]
theorem add_cls {n : Itm} {c : ByteArray} (h : nameS c = true) : addF n (⟨#[46]⟩ ++ c) = some { n with cl := n.cl ++ [c] } := by
  unfold addF
  rw [one_list]
  simp only
  rw [if_neg (by decide), if_pos (by decide), one_rest, if_pos h]
theorem ba_assoc (a b c : ByteArray) : a ++ b ++ c = a ++ (b ++ c) := ba_eq (by simp [ByteArray.data_append])
theorem add_att {n : Itm} {a v : ByteArray} (h : nameS a = true) (hv : valS v = true) : addF n (⟨#[64]⟩ ++ a ++ ⟨#[61]⟩ ++ v) = some { n with al := n.al ++ [(a, v)] } := by
  rw [ba_assoc, ba_assoc ⟨#[64]⟩, ← ba_assoc a]
  unfold addF
  rw [one_list]
  simp only
  rw [if_neg (by decide), if_neg (by decide), if_pos (by decide), one_rest, cut_eq (name_ne h)]
  simp only
  rw [if_pos ⟨h, hv⟩]
theorem let_not {c : UInt8} (h : letB c = true) : c.toNat ≠ 35 ∧ c.toNat ≠ 46 ∧ c.toNat ≠ 64 ∧ c.toNat ≠ 33 := by
  unfold letB at h
  rw [decide_eq_true_eq] at h
  omega
theorem add_sty {n : Itm} {a v : ByteArray} {x : Int} (h : nameS a = true) (hv : numP v.data.toList = (x, true)) : addF n (a ++ ⟨#[61]⟩ ++ v) = some { n with sl := n.sl ++ [(a, x)] } := by
  obtain ⟨c, r, hc, hl⟩ := name_head h
  have e : (a ++ ⟨#[61]⟩ ++ v).data.toList = c :: (r ++ 61 :: v.data.toList) := by simp [ByteArray.data_append, hc]
  obtain ⟨h1, h2, h3, h4⟩ := let_not hl
  unfold addF
  rw [e]
  simp only
  rw [if_neg h1, if_neg h2, if_neg h3, if_neg h4, cut_eq (name_ne h)]
  simp only
  rw [hv, if_pos ⟨h, rfl⟩]
theorem adds_cls : ∀ (cl : List ByteArray) (n : Itm), (∀ c ∈ cl, nameS c = true) → addsF n (cl.map (fun c => ⟨#[46]⟩ ++ c)) = some { n with cl := n.cl ++ cl }
  | [], n, _ => by simp [addsF]
  | c :: cl, n, h => by
    rw [List.map_cons, addsF, add_cls (h c (.head _))]
    simp only
    rw [adds_cls cl _ (fun c hc => h c (.tail _ hc))]
    simp
theorem adds_att : ∀ (al : List (ByteArray × ByteArray)) (n : Itm), (∀ x ∈ al, nameS x.1 = true ∧ valS x.2 = true) → addsF n (al.map (fun x => ⟨#[64]⟩ ++ x.1 ++ ⟨#[61]⟩ ++ x.2)) = some { n with al := n.al ++ al }
  | [], n, _ => by simp [addsF]
  | x :: al, n, h => by
    rw [List.map_cons, addsF, add_att (h x (.head _)).1 (h x (.head _)).2]
    simp only
    rw [adds_att al _ (fun c hc => h c (.tail _ hc))]
    simp
def itB (n : Int) : ByteArray := ⟨(Lib.itoa n).toArray⟩
theorem num_itB {x : Int} (h : ¬ outR x) : numP (itB x).data.toList = (x, true) := by
  have := (itoa_back x).2
  rw [if_neg h] at this
  unfold itB
  simpa using this
theorem adds_sty : ∀ (sl : List (ByteArray × Int)) (n : Itm), (∀ x ∈ sl, nameS x.1 = true ∧ ¬ outR x.2) → addsF n (sl.map (fun x => x.1 ++ ⟨#[61]⟩ ++ itB x.2)) = some { n with sl := n.sl ++ sl }
  | [], n, _ => by simp [addsF]
  | x :: sl, n, h => by
    rw [List.map_cons, addsF, add_sty (h x (.head _)).1 (num_itB (h x (.head _)).2)]
    simp only
    rw [adds_sty sl _ (fun c hc => h c (.tail _ hc))]
    simp
def kndW (k : Int) : List ByteArray := if k = 3 then [wGroup] else if k = 4 then [wSlot] else []
theorem add_group (n : Itm) : addF n wGroup = some { n with k := 3 } := by rfl
theorem add_slot (n : Itm) : addF n wSlot = some { n with k := 4 } := by rfl
theorem add_oi (n : Itm) : addF n wOutIn = some { n with o := (n.o.1, n.o.2.1, n.o.2.2.1, 1, n.o.2.2.2.2.1, n.o.2.2.2.2.2) } := by rfl
theorem add_io (n : Itm) : addF n wInOut = some { n with o := (n.o.1, n.o.2.1, n.o.2.2.1, 2, n.o.2.2.2.2.1, n.o.2.2.2.2.2) } := by rfl
theorem add_app (n : Itm) : addF n wAppear = some { n with o := (n.o.1, n.o.2.1, n.o.2.2.1, n.o.2.2.2.1, true, n.o.2.2.2.2.2) } := by rfl
theorem add_mov (n : Itm) : addF n wMoves = some { n with o := (n.o.1, n.o.2.1, n.o.2.2.1, n.o.2.2.2.1, n.o.2.2.2.2.1, true) } := by rfl
theorem ne_at {w x : ByteArray} (k : Nat) {a b : UInt8} (h1 : w.data.toList[k]? = some a) (h2 : x.data.toList[k]? = some b) (hab : a ≠ b) : ¬ w = x := fun h => by
  rw [h, h2] at h1
  injection h1 with h1
  exact hab h1.symm
theorem eq_list (nm v : ByteArray) : (nm ++ ⟨#[61]⟩ ++ v).data.toList = nm.data.toList ++ 61 :: v.data.toList := by simp [ByteArray.data_append]
theorem add_dur {n : Itm} {nm : ByteArray} {x : Int} {c : UInt8} {r : List UInt8} (hl : nm.data.toList = 33 :: c :: r) (hn : nm.data.toList.all neB = true)
    (h1 : ∀ v : ByteArray, ¬ nm ++ ⟨#[61]⟩ ++ v = wGroup ∧ ¬ nm ++ ⟨#[61]⟩ ++ v = wSlot ∧ ¬ nm ++ ⟨#[61]⟩ ++ v = wOutIn ∧ ¬ nm ++ ⟨#[61]⟩ ++ v = wInOut ∧ ¬ nm ++ ⟨#[61]⟩ ++ v = wAppear ∧ ¬ nm ++ ⟨#[61]⟩ ++ v = wMoves) (hx : ¬ outR x) :
    addF n (nm ++ ⟨#[61]⟩ ++ itB x) = (if nm = wEnter then some { n with o := (x, n.o.2.1, n.o.2.2.1, n.o.2.2.2.1, n.o.2.2.2.2.1, n.o.2.2.2.2.2) }
      else if nm = wLeave then some { n with o := (n.o.1, x, n.o.2.2.1, n.o.2.2.2.1, n.o.2.2.2.2.1, n.o.2.2.2.2.2) }
      else if nm = wMove then some { n with o := (n.o.1, n.o.2.1, x, n.o.2.2.2.1, n.o.2.2.2.2.1, n.o.2.2.2.2.2) } else none) := by
  obtain ⟨g1, g2, g3, g4, g5, g6⟩ := h1 (itB x)
  unfold addF
  rw [eq_list, hl]
  simp only [List.cons_append]
  rw [if_neg (by decide), if_neg (by decide), if_neg (by decide), if_pos (by decide), if_neg g1, if_neg g2, if_neg g3, if_neg g4, if_neg g5, if_neg g6, cut_eq hn]
  simp only
  rw [num_itB hx, if_pos rfl]
theorem add_enter {n : Itm} {x : Int} (hx : ¬ outR x) : addF n (wEnter ++ ⟨#[61]⟩ ++ itB x) = some { n with o := (x, n.o.2.1, n.o.2.2.1, n.o.2.2.2.1, n.o.2.2.2.2.1, n.o.2.2.2.2.2) } := by
  have hb : ∀ v : ByteArray, (wEnter ++ ⟨#[61]⟩ ++ v).data.toList[1]? = some 101 := fun v => by rw [eq_list]; rfl
  rw [add_dur (c := 101) (r := [110, 116, 101, 114]) rfl (by decide) (fun v => ⟨ne_at 1 (hb v) rfl (by decide), ne_at 1 (hb v) rfl (by decide), ne_at 1 (hb v) rfl (by decide), ne_at 1 (hb v) rfl (by decide), ne_at 1 (hb v) rfl (by decide), ne_at 1 (hb v) rfl (by decide)⟩) hx, if_pos rfl]
theorem add_leave {n : Itm} {x : Int} (hx : ¬ outR x) : addF n (wLeave ++ ⟨#[61]⟩ ++ itB x) = some { n with o := (n.o.1, x, n.o.2.2.1, n.o.2.2.2.1, n.o.2.2.2.2.1, n.o.2.2.2.2.2) } := by
  have hb : ∀ v : ByteArray, (wLeave ++ ⟨#[61]⟩ ++ v).data.toList[1]? = some 108 := fun v => by rw [eq_list]; rfl
  have hb2 : ∀ v : ByteArray, (wLeave ++ ⟨#[61]⟩ ++ v).data.toList[2]? = some 101 := fun v => by rw [eq_list]; rfl
  rw [add_dur (c := 108) (r := [101, 97, 118, 101]) rfl (by decide) (fun v => ⟨ne_at 1 (hb v) rfl (by decide), ne_at 1 (hb v) rfl (by decide), ne_at 1 (hb v) rfl (by decide), ne_at 1 (hb v) rfl (by decide), ne_at 1 (hb v) rfl (by decide), ne_at 1 (hb v) rfl (by decide)⟩) hx, if_neg (by decide), if_pos rfl]
theorem add_move {n : Itm} {x : Int} (hx : ¬ outR x) : addF n (wMove ++ ⟨#[61]⟩ ++ itB x) = some { n with o := (n.o.1, n.o.2.1, x, n.o.2.2.2.1, n.o.2.2.2.2.1, n.o.2.2.2.2.2) } := by
  have hb : ∀ v : ByteArray, (wMove ++ ⟨#[61]⟩ ++ v).data.toList[1]? = some 109 := fun v => by rw [eq_list]; rfl
  have hb5 : ∀ v : ByteArray, (wMove ++ ⟨#[61]⟩ ++ v).data.toList[5]? = some 61 := fun v => by rw [eq_list]; rfl
  rw [add_dur (c := 109) (r := [111, 118, 101]) rfl (by decide) (fun v => ⟨ne_at 1 (hb v) rfl (by decide), ne_at 1 (hb v) rfl (by decide), ne_at 1 (hb v) rfl (by decide), ne_at 1 (hb v) rfl (by decide), ne_at 1 (hb v) rfl (by decide), ne_at 5 (hb5 v) rfl (by decide)⟩) hx, if_neg (by decide), if_neg (by decide), if_pos rfl]
def keyB (key : ByteArray) : List ByteArray := if key = ⟨#[]⟩ then [] else [⟨#[35]⟩ ++ key]
def durB (nm : ByteArray) (x : Int) : List ByteArray := if x = 0 then [] else [nm ++ ⟨#[61]⟩ ++ itB x]
def mdB (m : Int) : List ByteArray := if m = 1 then [wOutIn] else if m = 2 then [wInOut] else []
def apB (b : Bool) : List ByteArray := if b = true then [wAppear] else []
def mvB (b : Bool) : List ByteArray := if b = true then [wMoves] else []
def itmB (k : Int) (key : ByteArray) (cl : List ByteArray) (al : List (ByteArray × ByteArray)) (sl : List (ByteArray × Int)) (o : Opt) : List ByteArray :=
  keyB key ++ (cl.map (fun c => ⟨#[46]⟩ ++ c) ++ (al.map (fun x => ⟨#[64]⟩ ++ x.1 ++ ⟨#[61]⟩ ++ x.2) ++ (sl.map (fun x => x.1 ++ ⟨#[61]⟩ ++ itB x.2) ++ (kndW k ++ (durB wEnter o.1 ++ (durB wLeave o.2.1 ++ (durB wMove o.2.2.1 ++ (apB o.2.2.2.2.1 ++ (mvB o.2.2.2.2.2 ++ mdB o.2.2.2.1)))))))))
structure ItV (k : Int) (key : ByteArray) (cl : List ByteArray) (al : List (ByteArray × ByteArray)) (sl : List (ByteArray × Int)) (o : Opt) : Prop where
  k : k = 2 ∨ k = 3 ∨ k = 4
  key : key = ⟨#[]⟩ ∨ keyS key = true
  cl : ∀ c ∈ cl, nameS c = true
  al : ∀ x ∈ al, nameS x.1 = true ∧ valS x.2 = true
  sl : ∀ x ∈ sl, nameS x.1 = true ∧ ¬ outR x.2
  o1 : ¬ outR o.1
  o2 : ¬ outR o.2.1
  o3 : ¬ outR o.2.2.1
  o4 : o.2.2.2.1 = 0 ∨ o.2.2.2.1 = 1 ∨ o.2.2.2.1 = 2
theorem adds_itm {k : Int} {tag key : ByteArray} {cl : List ByteArray} {al : List (ByteArray × ByteArray)} {sl : List (ByteArray × Int)} {o : Opt} (h : ItV k key cl al sl o) :
    addsF ⟨2, tag, ⟨#[]⟩, [], [], [], o0⟩ (itmB k key cl al sl o) = some ⟨k, tag, key, cl, al, sl, o⟩ := by
  obtain ⟨o1, o2, o3, o4, o5, o6⟩ := o
  have e1 : addsF ⟨2, tag, ⟨#[]⟩, [], [], [], o0⟩ (keyB key) = some ⟨2, tag, key, [], [], [], o0⟩ := by
    unfold keyB
    by_cases hk : key = ⟨#[]⟩
    · rw [if_pos hk, hk]; rfl
    · rw [if_neg hk, addsF, add_key (h.key.resolve_left hk)]; rfl
  have e2 := adds_cls cl ⟨2, tag, key, [], [], [], o0⟩ h.cl
  have e3 := adds_att al ⟨2, tag, key, cl, [], [], o0⟩ h.al
  have e4 := adds_sty sl ⟨2, tag, key, cl, al, [], o0⟩ h.sl
  simp only [List.nil_append] at e2 e3 e4
  have e5 : addsF ⟨2, tag, key, cl, al, sl, o0⟩ (kndW k) = some ⟨k, tag, key, cl, al, sl, o0⟩ := by
    unfold kndW
    rcases h.k with rfl | rfl | rfl
    · rfl
    · rw [if_pos rfl, addsF, add_group]; rfl
    · rw [if_neg (by decide), if_pos rfl, addsF, add_slot]; rfl
  have e6 : addsF ⟨k, tag, key, cl, al, sl, o0⟩ (durB wEnter o1) = some ⟨k, tag, key, cl, al, sl, (o1, 0, 0, 0, false, false)⟩ := by
    unfold durB
    by_cases hx : o1 = 0
    · rw [if_pos hx, hx]; rfl
    · rw [if_neg hx, addsF, add_enter h.o1]; rfl
  have e7 : addsF ⟨k, tag, key, cl, al, sl, (o1, 0, 0, 0, false, false)⟩ (durB wLeave o2) = some ⟨k, tag, key, cl, al, sl, (o1, o2, 0, 0, false, false)⟩ := by
    unfold durB
    by_cases hx : o2 = 0
    · rw [if_pos hx, hx]; rfl
    · rw [if_neg hx, addsF, add_leave h.o2]; rfl
  have e8 : addsF ⟨k, tag, key, cl, al, sl, (o1, o2, 0, 0, false, false)⟩ (durB wMove o3) = some ⟨k, tag, key, cl, al, sl, (o1, o2, o3, 0, false, false)⟩ := by
    unfold durB
    by_cases hx : o3 = 0
    · rw [if_pos hx, hx]; rfl
    · rw [if_neg hx, addsF, add_move h.o3]; rfl
  have e9 : addsF ⟨k, tag, key, cl, al, sl, (o1, o2, o3, 0, false, false)⟩ (apB o5) = some ⟨k, tag, key, cl, al, sl, (o1, o2, o3, 0, o5, false)⟩ := by
    unfold apB
    cases o5
    · rfl
    · rw [if_pos rfl, addsF, add_app]; rfl
  have e10 : addsF ⟨k, tag, key, cl, al, sl, (o1, o2, o3, 0, o5, false)⟩ (mvB o6) = some ⟨k, tag, key, cl, al, sl, (o1, o2, o3, 0, o5, o6)⟩ := by
    unfold mvB
    cases o6
    · rfl
    · rw [if_pos rfl, addsF, add_mov]; rfl
  have e11 : addsF ⟨k, tag, key, cl, al, sl, (o1, o2, o3, 0, o5, o6)⟩ (mdB o4) = some ⟨k, tag, key, cl, al, sl, (o1, o2, o3, o4, o5, o6)⟩ := by
    unfold mdB
    have h4 : o4 = 0 ∨ o4 = 1 ∨ o4 = 2 := h.o4
    rcases h4 with rfl | rfl | rfl
    · rfl
    · rw [if_pos rfl, addsF, add_oi]; rfl
    · rw [if_neg (by decide), if_pos rfl, addsF, add_io]; rfl
  unfold itmB
  rw [adds_app e1, adds_app e2, adds_app e3, adds_app e4, adds_app e5, adds_app e6, adds_app e7, adds_app e8, adds_app e9, adds_app e10, e11]
theorem adds_item : ∀ (ws : List ByteArray) (n m : Itm) (seen : List ByteArray), addsF n ws = some m → (seen ++ ws.filterMap whatF).Nodup → ∀ (f : Nat) (r : List TK) (op : Nat) (kids : List Tree),
    elemL (f + ws.length) (ws.map (fun w => (4, w)) ++ r) op n seen kids = elemL f r op m (seen ++ ws.filterMap whatF) kids
  | [], n, m, seen, h, _, f, r, op, kids => by
    injection h with h
    subst h
    simp
  | w :: ws, n, m, seen, h, hn, f, r, op, kids => by
    rw [addsF] at h
    cases ha : addF n w with
    | none => rw [ha] at h; cases h
    | some k =>
      rw [ha] at h
      simp only at h
      rw [List.map_cons, List.cons_append, List.length_cons, ← Nat.add_assoc, elemL]
      rw [if_neg (by decide), if_pos rfl]
      cases hw : whatF w with
      | none =>
        rw [List.filterMap_cons_none hw] at hn ⊢
        have hit : itemF n w seen = some (k, seen) := by unfold itemF; rw [ha]; simp only [hw]
        rw [hit]
        exact adds_item ws k m seen h hn f r op kids
      | some x =>
        rw [List.filterMap_cons_some hw] at hn ⊢
        have hx : seen.any (fun y => decide (y = x)) = false := by
          rw [List.any_eq_false]
          intro y hy
          rw [decide_eq_true_eq]
          rintro rfl
          rw [List.nodup_append] at hn
          exact hn.2.2 y hy y (.head _) rfl
        have hit : itemF n w seen = some (k, seen ++ [x]) := by
          unfold itemF; rw [ha]; simp only [hw]; rw [hx]; rfl
        rw [hit]
        simp only
        rw [adds_item ws k m (seen ++ [x]) h (by rw [List.append_assoc]; exact hn) f r op kids, List.append_assoc]
        rfl
theorem what_key (x : ByteArray) : whatF (⟨#[35]⟩ ++ x) = some ⟨#[35]⟩ := by unfold whatF; rw [one_list]; rfl
theorem what_cls (x : ByteArray) : whatF (⟨#[46]⟩ ++ x) = none := by unfold whatF; rw [one_list]; rfl
theorem nm_eq {a v : ByteArray} (ha : a.data.toList.all neB = true) : nmE (a ++ ⟨#[61]⟩ ++ v) = a := by unfold nmE; rw [cut_eq ha]
theorem what_att {a v : ByteArray} (ha : nameS a = true) : whatF (⟨#[64]⟩ ++ a ++ ⟨#[61]⟩ ++ v) = some (⟨#[64]⟩ ++ a) := by
  have h1 : (⟨#[64]⟩ ++ a ++ ⟨#[61]⟩ ++ v).data.toList = 64 :: (a.data.toList ++ 61 :: v.data.toList) := by simp [ByteArray.data_append]
  have h2 : (⟨#[64]⟩ ++ a : ByteArray).data.toList.all neB = true := by rw [one_list, List.all_cons, name_ne ha]; rfl
  unfold whatF
  rw [h1]
  simp only
  rw [nm_eq h2]
theorem what_sty {a v : ByteArray} (ha : nameS a = true) : whatF (a ++ ⟨#[61]⟩ ++ v) = some (⟨#[61]⟩ ++ a) := by
  obtain ⟨c, r, hc, hl⟩ := name_head ha
  have e : (a ++ ⟨#[61]⟩ ++ v).data.toList = c :: (r ++ 61 :: v.data.toList) := by simp [ByteArray.data_append, hc]
  obtain ⟨h1, h2, h3, h4⟩ := let_not hl
  unfold whatF
  rw [e]
  split
  · rename_i he; injection he with he _; rw [he] at h2; exact absurd rfl h2
  · rename_i he; injection he with he _; rw [he] at h1; exact absurd rfl h1
  · rename_i he; injection he with he _; rw [he] at h3; exact absurd rfl h3
  · rename_i he; injection he with he _; rw [he] at h4; exact absurd rfl h4
  · rw [nm_eq (name_ne ha)]
def wKind : ByteArray := ⟨#[33, 107, 105, 110, 100]⟩
def wMode : ByteArray := ⟨#[33, 109, 111, 100, 101]⟩
theorem what_dur {nm v : ByteArray} {c : UInt8} {r : List UInt8} (hl : nm.data.toList = 33 :: c :: r) (hn : nm.data.toList.all neB = true) (hc : c ≠ 103 ∧ c ≠ 115 ∧ c ≠ 111 ∧ c ≠ 105) : whatF (nm ++ ⟨#[61]⟩ ++ v) = some nm := by
  have hb : (nm ++ ⟨#[61]⟩ ++ v).data.toList[1]? = some c := by rw [eq_list, hl]; rfl
  have h1 : (nm ++ ⟨#[61]⟩ ++ v).data.toList = 33 :: (c :: r ++ 61 :: v.data.toList) := by rw [eq_list, hl]; rfl
  unfold whatF
  rw [h1]
  simp only
  rw [if_neg (fun h => h.elim (ne_at 1 hb (b := 103) rfl hc.1) (ne_at 1 hb (b := 115) rfl hc.2.1)), if_neg (fun h => h.elim (ne_at 1 hb (b := 111) rfl hc.2.2.1) (ne_at 1 hb (b := 105) rfl hc.2.2.2)), nm_eq hn]
def seenB (k : Int) (key : ByteArray) (al : List (ByteArray × ByteArray)) (sl : List (ByteArray × Int)) (o : Opt) : List ByteArray :=
  (if key = ⟨#[]⟩ then [] else [⟨#[35]⟩]) ++ (al.map (fun x => ⟨#[64]⟩ ++ x.1) ++ (sl.map (fun x => ⟨#[61]⟩ ++ x.1) ++ ((if k = 3 ∨ k = 4 then [wKind] else []) ++ ((if o.1 = 0 then [] else [wEnter]) ++ ((if o.2.1 = 0 then [] else [wLeave]) ++ ((if o.2.2.1 = 0 then [] else [wMove]) ++
    (apB o.2.2.2.2.1 ++ (mvB o.2.2.2.2.2 ++ (if o.2.2.2.1 = 1 ∨ o.2.2.2.1 = 2 then [wMode] else [])))))))))
theorem fm_cls : ∀ cl : List ByteArray, (cl.map (fun c => (⟨#[46]⟩ : ByteArray) ++ c)).filterMap whatF = []
  | [] => rfl
  | c :: cl => by rw [List.map_cons, List.filterMap_cons_none (what_cls c), fm_cls cl]
theorem fm_att : ∀ al : List (ByteArray × ByteArray), (∀ x ∈ al, nameS x.1 = true) → (al.map (fun x => ⟨#[64]⟩ ++ x.1 ++ ⟨#[61]⟩ ++ x.2)).filterMap whatF = al.map (fun x => ⟨#[64]⟩ ++ x.1)
  | [], _ => rfl
  | x :: al, h => by rw [List.map_cons, List.filterMap_cons_some (what_att (h x (.head _))), fm_att al (fun y hy => h y (.tail _ hy))]; rfl
theorem fm_sty : ∀ sl : List (ByteArray × Int), (∀ x ∈ sl, nameS x.1 = true) → (sl.map (fun x => x.1 ++ ⟨#[61]⟩ ++ itB x.2)).filterMap whatF = sl.map (fun x => ⟨#[61]⟩ ++ x.1)
  | [], _ => rfl
  | x :: sl, h => by rw [List.map_cons, List.filterMap_cons_some (what_sty (h x (.head _))), fm_sty sl (fun y hy => h y (.tail _ hy))]; rfl
theorem seen_itm {k : Int} {key : ByteArray} {cl : List ByteArray} {al : List (ByteArray × ByteArray)} {sl : List (ByteArray × Int)} {o : Opt} (h : ItV k key cl al sl o) : (itmB k key cl al sl o).filterMap whatF = seenB k key al sl o := by
  unfold itmB seenB
  simp only [List.filterMap_append]
  rw [fm_cls, List.nil_append, fm_att al (fun x hx => (h.al x hx).1), fm_sty sl (fun x hx => (h.sl x hx).1)]
  have e1 : (keyB key).filterMap whatF = if key = ⟨#[]⟩ then [] else [⟨#[35]⟩] := by
    unfold keyB; split
    · rfl
    · rw [List.filterMap_cons_some (what_key key)]; rfl
  have e2 : (kndW k).filterMap whatF = if k = 3 ∨ k = 4 then [wKind] else [] := by
    unfold kndW
    rcases h.k with rfl | rfl | rfl <;> rfl
  have e3 : (durB wEnter o.1).filterMap whatF = if o.1 = 0 then [] else [wEnter] := by
    unfold durB; split
    · rfl
    · rw [List.filterMap_cons_some (what_dur (c := 101) (r := [110, 116, 101, 114]) rfl (by decide) (by decide))]; rfl
  have e4 : (durB wLeave o.2.1).filterMap whatF = if o.2.1 = 0 then [] else [wLeave] := by
    unfold durB; split
    · rfl
    · rw [List.filterMap_cons_some (what_dur (c := 108) (r := [101, 97, 118, 101]) rfl (by decide) (by decide))]; rfl
  have e5 : (durB wMove o.2.2.1).filterMap whatF = if o.2.2.1 = 0 then [] else [wMove] := by
    unfold durB; split
    · rfl
    · rw [List.filterMap_cons_some (what_dur (c := 109) (r := [111, 118, 101]) rfl (by decide) (by decide))]; rfl
  have e6 : (apB o.2.2.2.2.1).filterMap whatF = apB o.2.2.2.2.1 := by cases o.2.2.2.2.1 <;> rfl
  have e7 : (mvB o.2.2.2.2.2).filterMap whatF = mvB o.2.2.2.2.2 := by cases o.2.2.2.2.2 <;> rfl
  have e8 : (mdB o.2.2.2.1).filterMap whatF = if o.2.2.2.1 = 1 ∨ o.2.2.2.1 = 2 then [wMode] else [] := by
    rcases h.o4 with e | e | e <;> rw [e] <;> rfl
  rw [e1, e2, e3, e4, e5, e6, e7, e8]
end Go.Proofs.YtipdgobplfkipaaGreatDoor
namespace Go.Proofs.YtipdgobplfkipaaGreatDoor

theorem one_inj {c : UInt8} {a b : ByteArray} (h : (⟨#[c]⟩ : ByteArray) ++ a = ⟨#[c]⟩ ++ b) : a = b := by
  have h1 := congrArg (fun x : ByteArray => x.data.toList) h
  simp only [one_list] at h1
  injection h1 with _ h1
  exact ba_eq h1
def F7 : List ByteArray := [wKind, wEnter, wLeave, wMove, wAppear, wMoves, wMode]
theorem F7_nodup : F7.Nodup := by
  unfold F7
  simp only [List.nodup_cons, List.mem_cons, List.not_mem_nil, or_false, not_or, not_false_eq_true, List.nodup_nil, and_true]
  decide
theorem F7_head : ∀ x ∈ F7, x.data.toList.head? = some 33 := by
  intro x hx
  unfold F7 at hx
  simp only [List.mem_cons, List.not_mem_nil, or_false] at hx
  rcases hx with rfl | rfl | rfl | rfl | rfl | rfl | rfl <;> rfl
theorem opt_sub {c : Prop} [Decidable c] (x : ByteArray) : (if c then [] else [x]).Sublist [x] := by split <;> simp
theorem opt_sub2 {c : Prop} [Decidable c] (x : ByteArray) : (if c then [x] else []).Sublist [x] := by split <;> simp
theorem seen_nodup {k : Int} {key : ByteArray} {al : List (ByteArray × ByteArray)} {sl : List (ByteArray × Int)} {o : Opt} (ha : (al.map (·.1)).Nodup) (hs : (sl.map (·.1)).Nodup) : (seenB k key al sl o).Nodup := by
  unfold seenB
  have hR : ((if k = 3 ∨ k = 4 then [wKind] else []) ++ ((if o.1 = 0 then [] else [wEnter]) ++ ((if o.2.1 = 0 then [] else [wLeave]) ++ ((if o.2.2.1 = 0 then [] else [wMove]) ++
    (apB o.2.2.2.2.1 ++ (mvB o.2.2.2.2.2 ++ (if o.2.2.2.1 = 1 ∨ o.2.2.2.1 = 2 then [wMode] else []))))))).Sublist F7 := by
    show List.Sublist _ ([wKind] ++ ([wEnter] ++ ([wLeave] ++ ([wMove] ++ ([wAppear] ++ ([wMoves] ++ [wMode]))))))
    exact (opt_sub2 _).append ((opt_sub _).append ((opt_sub _).append ((opt_sub _).append (List.Sublist.append (by unfold apB; exact opt_sub2 _) (List.Sublist.append (by unfold mvB; exact opt_sub2 _) (opt_sub2 _))))))
  generalize ((if k = 3 ∨ k = 4 then [wKind] else []) ++ ((if o.1 = 0 then [] else [wEnter]) ++ ((if o.2.1 = 0 then [] else [wLeave]) ++ ((if o.2.2.1 = 0 then [] else [wMove]) ++
    (apB o.2.2.2.2.1 ++ (mvB o.2.2.2.2.2 ++ (if o.2.2.2.1 = 1 ∨ o.2.2.2.1 = 2 then [wMode] else []))))))) = R at *
  have hRn := F7_nodup.sublist hR
  have hRh : ∀ x ∈ R, x.data.toList.head? = some 33 := fun x hx => F7_head x (hR.subset hx)
  have hSn : (sl.map (fun x => (⟨#[61]⟩ : ByteArray) ++ x.1)).Nodup := by
    rw [List.Nodup, List.pairwise_map] at hs ⊢
    exact hs.imp fun h e => h (one_inj e)
  have hSh : ∀ x ∈ sl.map (fun x => (⟨#[61]⟩ : ByteArray) ++ x.1), x.data.toList.head? = some 61 := by
    intro x hx
    obtain ⟨y, _, rfl⟩ := List.mem_map.1 hx
    rw [one_list]; rfl
  have hAn : (al.map (fun x => (⟨#[64]⟩ : ByteArray) ++ x.1)).Nodup := by
    rw [List.Nodup, List.pairwise_map] at ha ⊢
    exact ha.imp fun h e => h (one_inj e)
  have hAh : ∀ x ∈ al.map (fun x => (⟨#[64]⟩ : ByteArray) ++ x.1), x.data.toList.head? = some 64 := by
    intro x hx
    obtain ⟨y, _, rfl⟩ := List.mem_map.1 hx
    rw [one_list]; rfl
  have hKh : ∀ x ∈ (if key = (⟨#[]⟩ : ByteArray) then [] else [(⟨#[35]⟩ : ByteArray)]), x.data.toList.head? = some 35 := by
    intro x hx
    split at hx
    · cases hx
    · rw [List.mem_singleton.1 hx]; rfl
  have dis : ∀ {a b : UInt8} {x y : ByteArray}, x.data.toList.head? = some a → y.data.toList.head? = some b → a ≠ b → x ≠ y := fun h1 h2 hab e => by
    rw [e, h2] at h1; injection h1 with h1; exact hab h1.symm
  refine List.nodup_append.2 ⟨by split <;> simp, List.nodup_append.2 ⟨hAn, List.nodup_append.2 ⟨hSn, hRn, fun x hx y hy => dis (hSh x hx) (hRh y hy) (by decide)⟩, fun x hx y hy => ?_⟩, fun x hx y hy => ?_⟩
  · rcases List.mem_append.1 hy with hy | hy
    · exact dis (hAh x hx) (hSh y hy) (by decide)
    · exact dis (hAh x hx) (hRh y hy) (by decide)
  · rcases List.mem_append.1 hy with hy | hy
    · exact dis (hKh x hx) (hAh y hy) (by decide)
    · rcases List.mem_append.1 hy with hy | hy
      · exact dis (hKh x hx) (hSh y hy) (by decide)
      · exact dis (hKh x hx) (hRh y hy) (by decide)

mutual
def tkT : Tree → List TK
  | .mk k tag key text cl al sl o kids => if k = 1 then [(3, text)] else (1, ⟨#[]⟩) :: (4, tag) :: ((itmB k key cl al sl o).map (fun w => (4, w)) ++ (tkL kids ++ [(2, ⟨#[]⟩)]))
def tkL : List Tree → List TK
  | [] => []
  | t :: ts => tkT t ++ tkL ts
end
inductive PrV : Nat → Tree → Prop
  | txt {n : Nat} {text : ByteArray} (h : text.data.toList.all priB = true) : PrV (n + 1) (.mk 1 ⟨#[]⟩ ⟨#[]⟩ text [] [] [] o0 [])
  | elm {n : Nat} {k : Int} {tag key : ByteArray} {cl : List ByteArray} {al : List (ByteArray × ByteArray)} {sl : List (ByteArray × Int)} {o : Opt} {kids : List Tree} (h : ItV k key cl al sl o) (ht : nameS tag = true)
      (ha : (al.map (·.1)).Nodup) (hs : (sl.map (·.1)).Nodup) (hk : ∀ t ∈ kids, PrV n t) : PrV (n + 1) (.mk k tag key ⟨#[]⟩ cl al sl o kids)
theorem tk_head {n : Nat} {t : Tree} (h : PrV n t) : ∃ k x r, tkT t = (k, x) :: r ∧ k ≠ 2 ∧ k ≠ 4 := by
  cases h with
  | txt => exact ⟨3, _, [], rfl, by decide, by decide⟩
  | elm h ht ha hs hk =>
    refine ⟨1, ⟨#[]⟩, _, by rw [tkT, if_neg (by rcases h.k with e | e | e <;> rw [e] <;> decide)], by decide, by decide⟩
theorem kids_back (n : Nat) (op : Nat) (hv : ∀ t, PrV n t → ∃ F, ∀ (g : Nat) (r : List TK), viewL (F + g) (tkT t ++ r) op = .ok t r) : ∀ (kids : List Tree), (∀ t ∈ kids, PrV n t) →
    ∃ F, ∀ (g : Nat) (r : List TK) (m : Itm) (seen : List ByteArray) (ks : List Tree), elemL (F + g) (tkL kids ++ (2, ⟨#[]⟩) :: r) op m seen ks = .ok (m.tree (ks ++ kids)) r
  | [], _ => ⟨1, fun g r m seen ks => by rw [Nat.add_comm, tkL, List.nil_append, elemL, if_pos rfl, List.append_nil]⟩
  | t :: ts, h => by
    obtain ⟨F1, h1⟩ := hv t (h t (.head _))
    obtain ⟨F2, h2⟩ := kids_back n op hv ts (fun x hx => h x (.tail _ hx))
    refine ⟨F1 + F2 + 1, fun g r m seen ks => ?_⟩
    obtain ⟨k, x, q, he, hk2, hk4⟩ := tk_head (h t (.head _))
    have e1 := h1 (F2 + g) (tkL ts ++ (2, ⟨#[]⟩) :: r)
    rw [show F1 + F2 + 1 + g = (F1 + (F2 + g)) + 1 by omega, tkL, List.append_assoc]
    rw [he, List.cons_append] at e1 ⊢
    rw [elemL, if_neg hk2, if_neg hk4, e1]
    simp only
    rw [show F1 + (F2 + g) = F2 + (F1 + g) by omega, h2 (F1 + g) r m seen (ks ++ [t]), List.append_assoc]
    rfl
theorem view_back : ∀ (n : Nat) (op : Nat), op + n ≤ 40 → ∀ t, PrV n t → ∃ F, ∀ (g : Nat) (r : List TK), viewL (F + g) (tkT t ++ r) op = .ok t r
  | 0, _, _, t, h => by cases h
  | n + 1, op, hop, t, h => by
    cases h with
    | txt => exact ⟨1, fun g r => by rw [Nat.add_comm]; rfl⟩
    | @elm _ k tag key cl al sl o kids h ht ha hs hk =>
      obtain ⟨F, hF⟩ := kids_back n (op + 1) (fun t ht => view_back n (op + 1) (by omega) t ht) kids hk
      refine ⟨F + (itmB k key cl al sl o).length + 1, fun g r => ?_⟩
      rw [show F + (itmB k key cl al sl o).length + 1 + g = (F + g + (itmB k key cl al sl o).length) + 1 by omega, tkT, if_neg (by rcases h.k with e | e | e <;> rw [e] <;> decide)]
      simp only [List.cons_append, List.append_assoc]
      rw [viewL, if_neg (by decide), if_pos rfl, if_neg (by omega)]
      simp only
      rw [if_pos ⟨trivial, ht⟩]
      have e := adds_item (itmB k key cl al sl o) ⟨2, tag, ⟨#[]⟩, [], [], [], o0⟩ ⟨k, tag, key, cl, al, sl, o⟩ [] (adds_itm h) (by rw [List.nil_append, seen_itm h]; exact seen_nodup ha hs) (F + g) (tkL kids ++ (2, ⟨#[]⟩) :: ([] ++ r)) (op + 1) []
      rw [e]
      exact hF g ([] ++ r) _ _ []
end Go.Proofs.YtipdgobplfkipaaGreatDoor
namespace Go.Proofs.YtipdgobplfkipaaGreatDoor

def wdL (ws : List ByteArray) : List UInt8 := ws.flatMap (fun w => 32 :: w.data.toList)
mutual
def prB : Tree → List UInt8
  | .mk k tag key text cl al sl o kids => if k = 1 then 39 :: text.data.toList ++ [39] else 40 :: (tag.data.toList ++ (wdL (itmB k key cl al sl o) ++ (prBL kids ++ [41])))
def prBL : List Tree → List UInt8
  | [] => []
  | t :: ts => 32 :: prB t ++ prBL ts
end
mutual
def spT (n : Nat) : Tree → List (Nat × TK)
  | .mk k tag key text cl al sl o kids => if k = 1 then [(n, (3, text))] else (n, (1, ⟨#[]⟩)) :: (0, (4, tag)) :: ((itmB k key cl al sl o).map (fun w => (1, (4, w))) ++ (spTL kids ++ [(0, (2, ⟨#[]⟩))]))
def spTL : List Tree → List (Nat × TK)
  | [] => []
  | t :: ts => spT 1 t ++ spTL ts
end
theorem spAll_app : ∀ (a b : List (Nat × TK)), spAll (a ++ b) = spAll a ++ spAll b
  | [], b => rfl
  | (n, t) :: a, b => by rw [List.cons_append, spAll, spAll, spAll_app a b]; simp
theorem spAll_wds : ∀ ws : List ByteArray, spAll (ws.map (fun w => ((1 : Nat), ((4, w) : TK)))) = wdL ws
  | [] => rfl
  | w :: ws => by rw [List.map_cons, spAll, spAll_wds ws]; rfl
theorem sp_txt : ∀ (d : Nat) (t : Tree) (n : Nat), SizeOf.sizeOf t < d → spAll (spT n t) = List.replicate n 32 ++ prB t ∧ (spT n t).map (·.2) = tkT t
  | 0, t, n, h => absurd h (by omega)
  | d + 1, .mk k tag key text cl al sl o kids, n, h => by
    rw [spT, prB, tkT]
    by_cases hk : k = 1
    · rw [if_pos hk, if_pos hk, if_pos hk]
      exact ⟨by simp [spAll, spL], rfl⟩
    · rw [if_neg hk, if_neg hk, if_neg hk]
      have hK : ∀ ts : List Tree, (∀ t ∈ ts, SizeOf.sizeOf t < d) → spAll (spTL ts) = prBL ts ∧ (spTL ts).map (·.2) = tkL ts := by
        intro ts
        induction ts with
        | nil => exact fun _ => ⟨rfl, rfl⟩
        | cons t ts ih =>
          intro hts
          obtain ⟨a1, a2⟩ := sp_txt d t 1 (hts t (.head _))
          obtain ⟨b1, b2⟩ := ih (fun x hx => hts x (.tail _ hx))
          rw [spTL, prBL, tkL, spAll_app, a1, b1, List.map_append, a2, b2]
          exact ⟨by simp, rfl⟩
      obtain ⟨c1, c2⟩ := hK kids (fun t ht => by
        have := List.sizeOf_lt_of_mem ht
        simp only [Tree.mk.sizeOf_spec] at h
        omega)
      constructor
      · rw [spAll, spAll, spAll_app, spAll_app, spAll_wds, c1]
        simp [spAll, spL]
      · simp only [List.map_cons, List.map_append, List.map_map, c2, List.map_nil]
        rfl
def Sp1 (r : List (Nat × TK)) : Prop := SpOk r ∧ ∀ m u q, r = (m, u) :: q → u.1 = 4 → 1 ≤ m
theorem spok_cons {n : Nat} {t : TK} : ∀ {r : List (Nat × TK)}, t.1 ≠ 0 → TkOk t → SpOk r → (t.1 = 4 → ∀ m u q, r = (m, u) :: q → u.1 = 4 → 1 ≤ m) → SpOk ((n, t) :: r)
  | [], _, _, h, _ => h.elim
  | (m, u) :: q, h0, ht, h, hw => ⟨h0, ht, fun a b => hw a m u q rfl b, h⟩
theorem sp1_cons {n : Nat} {t : TK} {r : List (Nat × TK)} (h0 : t.1 ≠ 0) (ht : TkOk t) (h : Sp1 r) (hn : t.1 = 4 → 1 ≤ n) : Sp1 ((n, t) :: r) :=
  ⟨spok_cons h0 ht h.1 (fun _ => h.2), fun m u q e h4 => by injection e with e _; injection e with e1 e2; subst e1 e2; exact hn h4⟩
theorem sp1_wds : ∀ (ws : List ByteArray) (r : List (Nat × TK)), (∀ w ∈ ws, TkOk (4, w)) → Sp1 r → Sp1 (ws.map (fun w => ((1 : Nat), ((4, w) : TK))) ++ r)
  | [], r, _, h => h
  | w :: ws, r, hw, h => sp1_cons (by simp) (hw w (.head _)) (sp1_wds ws r (fun x hx => hw x (.tail _ hx)) h) (fun _ => Nat.le_refl _)
theorem pla_vis {b : UInt8} (h : plaB b = true) : visB b = true := by
  unfold plaB at h
  unfold visB
  rw [decide_eq_true_eq] at h ⊢
  omega
theorem all_imp {p q : UInt8 → Bool} (h : ∀ b, p b = true → q b = true) {l : List UInt8} (hl : l.all p = true) : l.all q = true := by
  rw [List.all_eq_true] at hl ⊢
  exact fun x hx => h x (hl x hx)
theorem key_vis {a : ByteArray} (h : keyS a = true) : a.data.toList.all visB = true := by
  unfold keyS at h
  rw [Bool.and_eq_true] at h
  exact all_imp (fun b hb => pla_vis hb) h.2
theorem name_key {a : ByteArray} (h : nameS a = true) : keyS a = true := by
  unfold nameS at h
  rw [Bool.and_eq_true] at h
  exact h.1
theorem ito_vis (n : Int) : (itB n).data.toList.all visB = true := by
  have h : (Lib.itoa n).all (fun b => digB b || decide (b = 45)) = true := by
    have hd : ∀ u : Nat, (Lib.decDigits u).all (fun b => digB b || decide (b = 45)) = true := fun u => by
      have := (dec_facts u).2.1
      rw [List.all_eq_true] at this ⊢
      intro b hb
      rw [this b hb]; rfl
    unfold Lib.itoa
    split
    · rw [List.all_cons, hd]; rfl
    · exact hd _
  unfold itB
  simp only
  refine all_imp (fun b hb => ?_) h
  rw [Bool.or_eq_true] at hb
  rcases hb with hb | hb
  · unfold digB at hb; unfold visB
    rw [decide_eq_true_eq] at hb ⊢; omega
  · rw [decide_eq_true_eq] at hb; subst hb; rfl
theorem tk4_of {w : ByteArray} {c : UInt8} {r : List UInt8} (h : w.data.toList = c :: r) (hv : w.data.toList.all visB = true) : TkOk (4, w) := ⟨by rw [h]; simp, hv⟩
theorem itm_ok {k : Int} {key : ByteArray} {cl : List ByteArray} {al : List (ByteArray × ByteArray)} {sl : List (ByteArray × Int)} {o : Opt} (h : ItV k key cl al sl o) : ∀ w ∈ itmB k key cl al sl o, TkOk (4, w) := by
  intro w hw
  unfold itmB at hw
  simp only [List.mem_append] at hw
  rcases hw with hw | hw | hw | hw | hw | hw | hw | hw | hw | hw | hw
  · unfold keyB at hw
    split at hw
    · cases hw
    · rename_i hne
      rw [List.mem_singleton.1 hw]
      refine tk4_of (one_list _ _) ?_
      rw [one_list, List.all_cons, key_vis (h.key.resolve_left hne)]; rfl
  · obtain ⟨c, hc, rfl⟩ := List.mem_map.1 hw
    refine tk4_of (one_list _ _) ?_
    rw [one_list, List.all_cons, key_vis (name_key (h.cl c hc))]; rfl
  · obtain ⟨x, hx, rfl⟩ := List.mem_map.1 hw
    have e : (⟨#[64]⟩ ++ x.1 ++ ⟨#[61]⟩ ++ x.2 : ByteArray).data.toList = 64 :: (x.1.data.toList ++ 61 :: x.2.data.toList) := by simp [ByteArray.data_append]
    have hv := (h.al x hx).2
    unfold valS at hv
    rw [Bool.and_eq_true] at hv
    refine tk4_of e ?_
    rw [e, List.all_cons, List.all_append, List.all_cons, key_vis (name_key (h.al x hx).1), hv.2]; rfl
  · obtain ⟨x, hx, rfl⟩ := List.mem_map.1 hw
    obtain ⟨c, r, hc, _⟩ := name_head (h.sl x hx).1
    have e := eq_list x.1 (itB x.2)
    refine tk4_of (c := c) (r := r ++ 61 :: (itB x.2).data.toList) (by rw [e, hc]; rfl) ?_
    rw [e, List.all_append, List.all_cons, key_vis (name_key (h.sl x hx).1), ito_vis]; rfl
  · unfold kndW at hw
    split at hw
    · rw [List.mem_singleton.1 hw]; exact ⟨by decide, by decide⟩
    · split at hw
      · rw [List.mem_singleton.1 hw]; exact ⟨by decide, by decide⟩
      · cases hw
  · unfold durB at hw
    split at hw
    · cases hw
    · rw [List.mem_singleton.1 hw]
      have e := eq_list wEnter (itB o.1)
      refine tk4_of (c := 33) (r := _) (by rw [e]; rfl) ?_
      rw [e, List.all_append, List.all_cons, ito_vis]; rfl
  · unfold durB at hw
    split at hw
    · cases hw
    · rw [List.mem_singleton.1 hw]
      have e := eq_list wLeave (itB o.2.1)
      refine tk4_of (c := 33) (r := _) (by rw [e]; rfl) ?_
      rw [e, List.all_append, List.all_cons, ito_vis]; rfl
  · unfold durB at hw
    split at hw
    · cases hw
    · rw [List.mem_singleton.1 hw]
      have e := eq_list wMove (itB o.2.2.1)
      refine tk4_of (c := 33) (r := _) (by rw [e]; rfl) ?_
      rw [e, List.all_append, List.all_cons, ito_vis]; rfl
  · unfold apB at hw
    split at hw
    · rw [List.mem_singleton.1 hw]; exact ⟨by decide, by decide⟩
    · cases hw
  · unfold mvB at hw
    split at hw
    · rw [List.mem_singleton.1 hw]; exact ⟨by decide, by decide⟩
    · cases hw
  · unfold mdB at hw
    split at hw
    · rw [List.mem_singleton.1 hw]; exact ⟨by decide, by decide⟩
    · split at hw
      · rw [List.mem_singleton.1 hw]; exact ⟨by decide, by decide⟩
      · cases hw
theorem sp1_view : ∀ (n : Nat) (t : Tree) (b : Nat) (r : List (Nat × TK)), PrV n t → Sp1 r → Sp1 (spT b t ++ r)
  | 0, t, b, r, h, _ => by cases h
  | n + 1, t, b, r, h, hr => by
    cases h with
    | txt ht =>
      rw [spT, if_pos rfl]
      refine sp1_cons (by simp) ⟨all_imp (fun c hc => ?_) ht, all_imp (fun c hc => ?_) ht⟩ hr (fun h => absurd h (by simp))
      · unfold priB at hc; unfold nqB
        rw [decide_eq_true_eq] at hc
        simp only [Bool.not_eq_true', decide_eq_false_iff_not]
        exact hc.2.2
      · unfold priB at hc; unfold priL
        rw [decide_eq_true_eq] at hc ⊢
        exact ⟨hc.1, hc.2.1⟩
    | @elm _ k tag key cl al sl o kids h ht ha hs hk =>
      rw [spT, if_neg (by rcases h.k with e | e | e <;> rw [e] <;> decide)]
      have hK : ∀ ts : List Tree, (∀ t ∈ ts, PrV n t) → ∀ r, Sp1 r → Sp1 (spTL ts ++ r) := by
        intro ts
        induction ts with
        | nil => exact fun _ r hr => hr
        | cons t ts ih =>
          intro hts r hr
          rw [spTL, List.append_assoc]
          exact sp1_view n t 1 _ (hts t (.head _)) (ih (fun x hx => hts x (.tail _ hx)) r hr)
      simp only [List.cons_append, List.append_assoc, List.nil_append]
      have e1 := sp1_wds (itmB k key cl al sl o) _ (itm_ok h) (hK kids hk _ (sp1_cons (n := 0) (t := (2, ⟨#[]⟩)) (by decide) rfl hr (fun h => absurd h (by decide))))
      obtain ⟨c, q, hc, _⟩ := name_head ht
      exact ⟨spok_cons (by decide) rfl (spok_cons (by simp) (tk4_of hc (key_vis (name_key ht))) e1.1 (fun _ => e1.2)) (fun h => absurd h (by decide)), fun m u q e h4 => by injection e with e _; injection e with _ e2; subst e2; exact absurd h4 (by decide)⟩
abbrev tk0 : TK := (0, ⟨#[]⟩)
theorem print_back {n : Nat} {t : Tree} (h : PrV n t) (hn : n ≤ 40) {s : ByteArray} (hs : s.data.toList = prB t) (hl : s.size ≤ 20000) : (parseF s).bare = (some t, 0) := by
  rw [parse_toks hl]
  have hok : Sp1 (spT 0 t ++ [((0 : Nat), tk0)]) := sp1_view n t 0 _ h ⟨rfl, fun m u q e h4 => by injection e with e _; injection e with _ e2; subst e2; exact absurd h4 (by decide)⟩
  obtain ⟨e1, e2⟩ := sp_txt _ t 0 (Nat.lt_succ_self _)
  have e3 : s.data.toList = spAll (spT 0 t ++ [((0 : Nat), tk0)]) := by rw [spAll_app, e1, hs]; simp [spAll, spL]
  have e4 := toks_spell s _ 0 hok.1 (by rw [List.drop_zero]; exact e3)
  rw [List.map_append, e2] at e4
  rw [e4]
  obtain ⟨F, hF⟩ := view_back n 0 (by omega) t h
  have e5 := hF ((tkT t ++ [tk0]).length + 1) [tk0]
  rw [Nat.add_comm, view_big _ F (by omega) (by omega)] at e5
  unfold parseL
  simp only [List.map_cons, List.map_nil]
  rw [e5]
  rfl
end Go.Proofs.YtipdgobplfkipaaGreatDoor
namespace Go.Proofs.YtipdgobplfkipaaGreatDoor
open Go.RowKit
set_option maxRecDepth 100000
attribute [local irreducible] Go.Code.wpIn Go.wpListIn Go.Calls Gives Go.Exit.then Go.Exit.inBlock Done ObxE

def cutF (s : ByteArray) (n : Nat) : ByteArray := if n < s.size then s.extract 0 n else s

theorem cut_any (s : ByteArray) (n : Nat) (w0 : World) : Calls Tryz.prog 8 #[.string s, .int .i64 (n : Int)] w0 (Ret fun v w => v = .string (cutF s n) ∧ St w0 [] w) := by
  refine enter Tryz.func8 rfl Tryz.ntmps8 rfl (fun a hk => ?_); have hS := St.refl w0
  by_cases hn : n < s.size
  · have hn' : (n : Int) < (s.size : Int) := by omega
    (repeat' (first | (show wpListIn _ _ _ _ _ (_ :: _) _ _; first | (refine wx1 ?_; clear hk a; intro a hk) | (refine wx2 ?_ ?_ <;> (intro hp; clear hk a; intro a hk)) | (refine wx3 ?_; clear hk hS a; intro w b hS a hk) | (refine wx4 ?_; clear hk hS a; intro w hS a hk) | (refine wx5 ?_; clear hk hS a; intro w v hS a hk) | fail) | refine wx0 ?_ | (refine s_end hk ?_; clear hk a; intro a hk) | fail))
    exact done1 hk (h := ⟨by rw [cutF, if_pos hn]; rfl, hS.nil⟩)
  · have hn' : ¬ (n : Int) < (s.size : Int) := by omega
    (repeat' (first | (show wpListIn _ _ _ _ _ (_ :: _) _ _; first | (refine wx1 ?_; clear hk a; intro a hk) | (refine wx2 ?_ ?_ <;> (intro hp; clear hk a; intro a hk)) | (refine wx3 ?_; clear hk hS a; intro w b hS a hk) | (refine wx4 ?_; clear hk hS a; intro w hS a hk) | (refine wx5 ?_; clear hk hS a; intro w v hS a hk) | fail) | refine wx0 ?_ | (refine s_end hk ?_; clear hk a; intro a hk) | fail))
    exact done1 hk (h := ⟨by rw [cutF, if_neg hn], hS.nil⟩)
end Go.Proofs.YtipdgobplfkipaaGreatDoor
namespace Go.Proofs.YtipdgobplfkipaaGreatDoor
open Go.RowKit
set_option maxRecDepth 100000
attribute [local irreducible] Go.Code.wpIn Go.wpListIn Go.Calls Gives Go.Exit.then Go.Exit.inBlock Done ObxE

theorem getLast_take {β : Type} {S : List β} {k : Nat} (h : k + 1 ≤ S.length) : (S.take (k + 1)).getLast? = some (S[k]'(by omega)) := by
  rw [List.getLast?_eq_getElem?, List.length_take, Nat.min_eq_left h, List.getElem?_take, if_pos (by omega), List.getElem?_eq_getElem (by omega)]
  simp

set_option maxHeartbeats 4000000 in
theorem refOf_any (l : List PrI) (v : Value) (w0 : World) (hv : SlT l v w0) (hl : l.length ≤ 1000) :
    Calls Tryz.prog 38 #[v] w0 (Ret fun v w => St w0 [OwT 75 (snapF nmI l) v] w) := by
  have hsl := snap_len nmI l
  have hmn := fun k hk => minE_next nmI l k hk
  generalize snapF nmI l = S at *
  refine enter Tryz.func38 rfl Tryz.ntmps38 rfl (fun a hk => ?_); have hS := St.refl w0
  (repeat' (first | (show wpListIn _ _ _ _ _ (_ :: _) _ _; first | (refine wx1 ?_; clear hk a; intro a hk) | (refine wx2 ?_ ?_ <;> (intro hp; clear hk a; intro a hk)) | (refine wx3 ?_; clear hk hS a; intro w b hS a hk) | (refine wx4 ?_; clear hk hS a; intro w hS a hk) | (refine wx5 ?_; clear hk hS a; intro w v hS a hk) | fail) | refine wx0 ?_ | (refine s_end hk ?_; clear hk a; intro a hk) | fail))
  refine sg hk (g_bs0 PrI hS ?_ (hT := eT rfl) (hE := zT rfl)); clear hk hS a; intro w v2 hS a hk
  (repeat' (first | (show wpListIn _ _ _ _ _ (_ :: _) _ _; first | (refine wx1 ?_; clear hk a; intro a hk) | (refine wx2 ?_ ?_ <;> (intro hp; clear hk a; intro a hk)) | (refine wx3 ?_; clear hk hS a; intro w b hS a hk) | (refine wx4 ?_; clear hk hS a; intro w hS a hk) | (refine wx5 ?_; clear hk hS a; intro w v hS a hk) | fail) | refine wx0 ?_ | (refine s_end hk ?_; clear hk a; intro a hk) | fail))
  replace hk := Kn.kp [0, 3] hk
  refine wp_for S.length (fun _ v => [(3, v)]) (fun k v => [OwT 75 (S.take k) v]) (fun _ _ => True) v2 hk (by repeat (first | exact trivial | refine ⟨rfl, ?_⟩)) hS trivial ?_
  clear hk hS a
  rintro k vo a w hk1 hk hS -
  have hkl : (S.take k).length = k := by rw [List.length_take]; omega
  have hm1 := hmn k hk1
  (repeat' (first | (show wpListIn _ _ _ _ _ (_ :: _) _ _; first | (refine wx1 ?_; clear hk a; intro a hk) | (refine wx2 ?_ ?_ <;> (intro hp; clear hk a; intro a hk)) | (refine wx3 ?_; clear hk hS a; intro w b hS a hk) | (refine wx4 ?_; clear hk hS a; intro w hS a hk) | (refine wx5 ?_; clear hk hS a; intro w v hS a hk) | fail) | refine wx0 ?_ | (refine s_end hk ?_; clear hk a; intro a hk) | fail))
  replace hk := Kn.kp [0, 3, 4, 5, 11, 12, 13] hk
  refine wp_for l.length (fun i _ => [(4, .bool (minE nmI (l.take i) ((S.take k).getLast?.map nmI)).isSome), (13, .int .i64 (i : Int))]) (fun i _ => [pts b (Enc.f ((minE nmI (l.take i) ((S.take k).getLast?.map nmI)).getD (⟨#[]⟩, 0))) 75, OwT 75 (S.take k) vo]) (fun _ _ => True) () hk (by repeat (first | exact trivial | refine ⟨rfl, ?_⟩)) hS.sb trivial ?_
  clear hk hS a
  rintro i - a w hi hk hS -
  by_cases hil : i < l.length
  · obtain ⟨⟨id, X⟩, hx⟩ : ∃ x, l[i]? = some x := ⟨_, List.getElem?_eq_getElem hil⟩
    have hm' : minE nmI (l.take (i + 1)) ((S.take k).getLast?.map nmI) = minStepE nmI ((S.take k).getLast?.map nmI) (minE nmI (l.take i) ((S.take k).getLast?.map nmI)) (id, X) := by rw [take_snoc hx, minE_snoc]
    have hA : (S.take k).getLast?.map nmI = none ∧ k = 0 ∨ ∃ h : k - 1 < S.length, 0 < k ∧ (S.take k).getLast?.map nmI = some S[k - 1].1 := by
      by_cases hk0 : k = 0
      · subst hk0; exact .inl ⟨rfl, rfl⟩
      · refine .inr ⟨by omega, by omega, ?_⟩
        obtain ⟨k', rfl⟩ : ∃ k', k = k' + 1 := ⟨k - 1, by omega⟩
        rw [getLast_take hk1]
        rfl
    generalize minE nmI (l.take (i + 1)) ((S.take k).getLast?.map nmI) = m' at hm' ⊢
    generalize minE nmI (l.take i) ((S.take k).getLast?.map nmI) = m at hm' hk hS
    generalize (S.take k).getLast?.map nmI = A at hm' hA
    rcases hA with ⟨rfl, hk0⟩ | ⟨hkS, hkp, rfl⟩
    · rcases m with _ | ⟨qn, qx⟩
      · have e : m' = some (id, X) := by rw [hm']; rfl
        subst e
        simp only [Option.isSome_none, Option.getD_none] at hk hS
        (repeat' (first | (show wpListIn _ _ _ _ _ (_ :: _) _ _; first | (refine wx1 ?_; clear hk a; intro a hk) | (refine wx2 ?_ ?_ <;> (intro hp; clear hk a; intro a hk)) | (refine wx3 ?_; clear hk hS a; intro w b hS a hk) | (refine wx4 ?_; clear hk hS a; intro w hS a hk) | (refine wx5 ?_; clear hk hS a; intro w v hS a hk) | fail) | refine wx0 ?_ | (refine s_end hk ?_; clear hk a; intro a hk) | fail))
        refine wp_drawn 13 mixed (by kernel_rfl) hk hS ?_; clear hk hS a
        (repeat' (first | (show ObxE _ _ _ _ _ _ _ _ _ (_ :: _) _ _ _; first | refine ox1 ?_ | (refine ox2 ?_ ?_ <;> intro hp) | fail) | fail))
        refine obe_nil ⟨rfl, ?_⟩; intro us a w hk hS
        (repeat' (first | (show wpListIn _ _ _ _ _ (_ :: _) _ _; first | (refine wx1 ?_; clear hk a; intro a hk) | (refine wx2 ?_ ?_ <;> (intro hp; clear hk a; intro a hk)) | (refine wx3 ?_; clear hk hS a; intro w b hS a hk) | (refine wx4 ?_; clear hk hS a; intro w hS a hk) | (refine wx5 ?_; clear hk hS a; intro w v hS a hk) | fail) | refine wx0 ?_ | (refine s_end hk ?_; clear hk a; intro a hk) | fail))
        exact ⟨hil, (), hk.sd, hS.sb, trivial⟩
      · simp only [Option.isSome_some, Option.getD_some] at hk hS
        (repeat' (first | (show wpListIn _ _ _ _ _ (_ :: _) _ _; first | (refine wx1 ?_; clear hk a; intro a hk) | (refine wx2 ?_ ?_ <;> (intro hp; clear hk a; intro a hk)) | (refine wx3 ?_; clear hk hS a; intro w b hS a hk) | (refine wx4 ?_; clear hk hS a; intro w hS a hk) | (refine wx5 ?_; clear hk hS a; intro w v hS a hk) | fail) | refine wx0 ?_ | (refine s_end hk ?_; clear hk a; intro a hk) | fail))
        refine wp_drawn 13 mixed (by kernel_rfl) hk hS ?_; clear hk hS a
        (repeat' (first | (show ObxE _ _ _ _ _ _ _ _ _ (_ :: _) _ _ _; first | refine ox1 ?_ | (refine ox2 ?_ ?_ <;> intro hp) | fail) | fail))
        refine obe_nil ⟨rfl, ?_⟩; intro us a w hk hS
        (repeat' (first | (show wpListIn _ _ _ _ _ (_ :: _) _ _; first | (refine wx1 ?_; clear hk a; intro a hk) | (refine wx2 ?_ ?_ <;> (intro hp; clear hk a; intro a hk)) | (refine wx3 ?_; clear hk hS a; intro w b hS a hk) | (refine wx4 ?_; clear hk hS a; intro w hS a hk) | (refine wx5 ?_; clear hk hS a; intro w v hS a hk) | fail) | refine wx0 ?_ | (refine s_end hk ?_; clear hk a; intro a hk) | fail))
        · have h1 : (!Lin.lt qn id) = true := by assumption
          have e : m' = some (id, X) := by rw [hm']; simp at h1; simp [minStepE, aheadB, h1]
          subst e
          exact ⟨hil, (), hk.sd, hS.sb, trivial⟩
        · have h1 : (!Lin.lt qn id) = false := by assumption
          have e : m' = some (qn, qx) := by rw [hm']; simp at h1; simp [minStepE, aheadB, h1]
          subst e
          exact ⟨hil, (), hk.sd, hS.sb, trivial⟩
    · have hga : ∀ h, ((S.take k)[(((S.take k).length : Int) - 1).toNat]'h).1 = S[k - 1].1 := by
        intro h
        rw [List.getElem_take]
        congr 2
        omega
      rcases m with _ | ⟨qn, qx⟩
      · simp only [Option.isSome_none, Option.getD_none] at hk hS
        (repeat' (first | (show wpListIn _ _ _ _ _ (_ :: _) _ _; first | (refine wx1 ?_; clear hk a; intro a hk) | (refine wx2 ?_ ?_ <;> (intro hp; clear hk a; intro a hk)) | (refine wx3 ?_; clear hk hS a; intro w b hS a hk) | (refine wx4 ?_; clear hk hS a; intro w hS a hk) | (refine wx5 ?_; clear hk hS a; intro w v hS a hk) | fail) | refine wx0 ?_ | (refine s_end hk ?_; clear hk a; intro a hk) | fail))
        refine wp_drawn 13 mixed (by kernel_rfl) hk hS ?_; clear hk hS a
        (repeat' (first | (show ObxE _ _ _ _ _ _ _ _ _ (_ :: _) _ _ _; first | refine ox1 ?_ | (refine ox2 ?_ ?_ <;> intro hp) | fail) | fail))
        refine obe_nil ⟨rfl, ?_⟩; intro us a w hk hS
        (repeat' (first | (show wpListIn _ _ _ _ _ (_ :: _) _ _; first | (refine wx1 ?_; clear hk a; intro a hk) | (refine wx2 ?_ ?_ <;> (intro hp; clear hk a; intro a hk)) | (refine wx3 ?_; clear hk hS a; intro w b hS a hk) | (refine wx4 ?_; clear hk hS a; intro w hS a hk) | (refine wx5 ?_; clear hk hS a; intro w v hS a hk) | fail) | refine wx0 ?_ | (refine s_end hk ?_; clear hk a; intro a hk) | fail))
        · have h1 : Lin.lt S[k - 1].1 id = true := by rw [← hga (by omega)]; assumption
          have e : m' = some (id, X) := by rw [hm']; simp [minStepE, aheadB, h1]
          subst e
          exact ⟨hil, (), hk.sd, hS.sb, trivial⟩
        · have h1 : Lin.lt S[k - 1].1 id = false := by rw [← hga (by omega)]; assumption
          have e : m' = none := by rw [hm']; simp [minStepE, aheadB, h1]
          subst e
          exact ⟨hil, (), hk.sd, hS.sb, trivial⟩
      · simp only [Option.isSome_some, Option.getD_some] at hk hS
        (repeat' (first | (show wpListIn _ _ _ _ _ (_ :: _) _ _; first | (refine wx1 ?_; clear hk a; intro a hk) | (refine wx2 ?_ ?_ <;> (intro hp; clear hk a; intro a hk)) | (refine wx3 ?_; clear hk hS a; intro w b hS a hk) | (refine wx4 ?_; clear hk hS a; intro w hS a hk) | (refine wx5 ?_; clear hk hS a; intro w v hS a hk) | fail) | refine wx0 ?_ | (refine s_end hk ?_; clear hk a; intro a hk) | fail))
        refine wp_drawn 13 mixed (by kernel_rfl) hk hS ?_; clear hk hS a
        (repeat' (first | (show ObxE _ _ _ _ _ _ _ _ _ (_ :: _) _ _ _; first | refine ox1 ?_ | (refine ox2 ?_ ?_ <;> intro hp) | fail) | fail))
        refine obe_nil ⟨rfl, ?_⟩; intro us a w hk hS
        (repeat' (first | (show wpListIn _ _ _ _ _ (_ :: _) _ _; first | (refine wx1 ?_; clear hk a; intro a hk) | (refine wx2 ?_ ?_ <;> (intro hp; clear hk a; intro a hk)) | (refine wx3 ?_; clear hk hS a; intro w b hS a hk) | (refine wx4 ?_; clear hk hS a; intro w hS a hk) | (refine wx5 ?_; clear hk hS a; intro w v hS a hk) | fail) | refine wx0 ?_ | (refine s_end hk ?_; clear hk a; intro a hk) | fail))
        · have h1 : Lin.lt S[k - 1].1 id = true := by rw [← hga (by omega)]; assumption
          have h2 : (!Lin.lt qn id) = true := by assumption
          have e : m' = some (id, X) := by rw [hm']; simp at h2; simp [minStepE, aheadB, h1, h2]
          subst e
          exact ⟨hil, (), hk.sd, hS.sb, trivial⟩
        · have h1 : Lin.lt S[k - 1].1 id = true := by rw [← hga (by omega)]; assumption
          have h2 : (!Lin.lt qn id) = false := by assumption
          have e : m' = some (qn, qx) := by rw [hm']; simp at h2; simp [minStepE, aheadB, h1, h2]
          subst e
          exact ⟨hil, (), hk.sd, hS.sb, trivial⟩
        · have h1 : Lin.lt S[k - 1].1 id = false := by rw [← hga (by omega)]; assumption
          have e : m' = some (qn, qx) := by rw [hm']; simp [minStepE, aheadB, h1]
          subst e
          exact ⟨hil, (), hk.sd, hS.sb, trivial⟩
  · have : i = l.length := by omega
    subst this
    rw [List.take_length, hm1] at hk hS
    by_cases hkS : k < S.length
    · obtain ⟨⟨i2, X2⟩, hSk⟩ : ∃ e, S[k]? = some e := ⟨_, List.getElem?_eq_getElem hkS⟩
      rw [hSk] at hk hS
      simp only [Option.isSome_some, Option.getD_some] at hk hS
      (repeat' (first | (show wpListIn _ _ _ _ _ (_ :: _) _ _; first | (refine wx1 ?_; clear hk a; intro a hk) | (refine wx2 ?_ ?_ <;> (intro hp; clear hk a; intro a hk)) | (refine wx3 ?_; clear hk hS a; intro w b hS a hk) | (refine wx4 ?_; clear hk hS a; intro w hS a hk) | (refine wx5 ?_; clear hk hS a; intro w v hS a hk) | fail) | refine wx0 ?_ | (refine s_end hk ?_; clear hk a; intro a hk) | fail))
      refine sg hk (g_bsT (xs := [((i2, X2) : PrI)]) (m := 0) hk hS ?_ (hT := eT rfl) (hE := zT rfl) (hz := oT rfl)); clear hk hS a; intro w ve hS a hk
      (repeat' (first | (show wpListIn _ _ _ _ _ (_ :: _) _ _; first | (refine wx1 ?_; clear hk a; intro a hk) | (refine wx2 ?_ ?_ <;> (intro hp; clear hk a; intro a hk)) | (refine wx3 ?_; clear hk hS a; intro w b hS a hk) | (refine wx4 ?_; clear hk hS a; intro w hS a hk) | (refine wx5 ?_; clear hk hS a; intro w v hS a hk) | fail) | refine wx0 ?_ | (refine s_end hk ?_; clear hk a; intro a hk) | fail))
      have hst : S.take (k + 1) = S.take k ++ [(i2, X2)] := take_snoc hSk
      rw [← hst] at hS
      exact ⟨hkS, _, hk.sd, hS.sb, trivial⟩
    · have : k = S.length := by omega
      subst this
      rw [List.getElem?_eq_none (Nat.le_refl _)] at hk hS
      rw [List.take_length] at hS
      simp only [Option.isSome_none] at hk
      (repeat' (first | (show wpListIn _ _ _ _ _ (_ :: _) _ _; first | (refine wx1 ?_; clear hk a; intro a hk) | (refine wx2 ?_ ?_ <;> (intro hp; clear hk a; intro a hk)) | (refine wx3 ?_; clear hk hS a; intro w b hS a hk) | (refine wx4 ?_; clear hk hS a; intro w hS a hk) | (refine wx5 ?_; clear hk hS a; intro w v hS a hk) | fail) | refine wx0 ?_ | (refine s_end hk ?_; clear hk a; intro a hk) | fail))
      exact done1 hk (h := hS.sb)

def few04 (l : List PrI) (n : Nat) : List PrI := (l.take n).map (fun p => (cutF p.1 20, p.2))
theorem few04_len (l : List PrI) (n : Nat) : (few04 l n).length = min n l.length := by simp [few04]
theorem few04_snoc {l : List PrI} {i : Nat} {x : PrI} (h : l[i]? = some x) : few04 l (i + 1) = few04 l i ++ [(cutF x.1 20, x.2)] := by simp [few04, take_snoc h]

set_option maxHeartbeats 1000000 in
theorem few04_any (l : List PrI) (n : Nat) (hn : n ≤ 1000) (v : Value) (w0 : World) (hv : SlT l v w0) : Calls Tryz.prog 57 #[v, .int .i64 (n : Int)] w0
    (Ret fun v w => St w0 [OwT 75 (few04 l n) v] w) := by
  refine enter Tryz.func57 rfl Tryz.ntmps57 rfl (fun a hk => ?_); have hS := St.refl w0
  (repeat' (first | (show wpListIn _ _ _ _ _ (_ :: _) _ _; first | (refine wx1 ?_; clear hk a; intro a hk) | (refine wx2 ?_ ?_ <;> (intro hp; clear hk a; intro a hk)) | (refine wx3 ?_; clear hk hS a; intro w b hS a hk) | (refine wx4 ?_; clear hk hS a; intro w hS a hk) | (refine wx5 ?_; clear hk hS a; intro w v hS a hk) | fail) | refine wx0 ?_ | (refine s_end hk ?_; clear hk a; intro a hk) | fail))
  replace hS := hS.nilT 75 PrI
  replace hk := Kn.kp [0, 1, 5, 6] hk
  refine wp_for n (fun i v => [(5, v), (6, .int .i64 (i : Int))]) (fun i v => [OwT 75 (few04 l i) v]) (fun i _ => i ≤ l.length) (.slice none 0 0) hk (by repeat (first | exact trivial | refine ⟨rfl, ?_⟩)) hS (by omega) ?_
  clear hk hS a
  rintro i vo a w hi hk hS hF
  have hm : l.length ≤ maxLen := hv.len_le
  simp only [maxLen] at hm
  have hlen := few04_len l i
  by_cases hll : i < l.length
  · by_cases hlt : i < n
    · obtain ⟨⟨k, x⟩, hx⟩ : ∃ x, l[i]? = some x := ⟨_, List.getElem?_eq_getElem hll⟩
      have hst := few04_snoc hx
      (repeat' (first | (show wpListIn _ _ _ _ _ (_ :: _) _ _; first | (refine wx1 ?_; clear hk a; intro a hk) | (refine wx2 ?_ ?_ <;> (intro hp; clear hk a; intro a hk)) | (refine wx3 ?_; clear hk hS a; intro w b hS a hk) | (refine wx4 ?_; clear hk hS a; intro w hS a hk) | (refine wx5 ?_; clear hk hS a; intro w v hS a hk) | fail) | refine wx0 ?_ | (refine s_end hk ?_; clear hk a; intro a hk) | fail))
      refine wp_drawn 14 mixed (by kernel_rfl) hk hS ?_; clear hk hS a
      (repeat' (first | (show ObxE _ _ _ _ _ _ _ _ _ (_ :: _) _ _ _; first | refine ox1 ?_ | (refine ox2 ?_ ?_ <;> intro hp) | fail) | fail))
      refine' obe_val (fun us a w hk hd hS => ?_) ?_; rotate_left; focus (have hk := Kn.vw hk (by repeat (first | exact VW.nil | apply VW.val rfl | apply VW.base rfl rfl | apply VW.res rfl | apply VW.upd rfl | apply VW.cpy rfl | apply VW.dep rfl | apply VW.fn rfl | apply VW.lnd rfl | apply VW.tak rfl)); exact g_callO hk (hf := by kernel_rfl) (hc := cut_any _ 20 _) (h := fun _ _ h => h))
      (repeat' (first | (show ObxE _ _ _ _ _ _ _ _ _ (_ :: _) _ _ _; first | refine ox1 ?_ | (refine ox2 ?_ ?_ <;> intro hp) | fail) | fail))
      refine' obe_res (fun us a w hk hd hS => ?_) ?_; rotate_left; focus (have hk := Kn.vw hk (by repeat (first | exact VW.nil | apply VW.val rfl | apply VW.base rfl rfl | apply VW.res rfl | apply VW.upd rfl | apply VW.cpy rfl | apply VW.dep rfl | apply VW.fn rfl | apply VW.lnd rfl | apply VW.tak rfl)); exact v_bsT (xs := [((cutF k 20, x) : PrI)]) (m := 0) hk (hT := eT rfl) (hE := zT rfl) (hz := oT rfl))
      refine obe_nil ⟨rfl, ?_⟩; intro us a w hk hS
      simp only [resE] at hS
      (repeat' (first | (show wpListIn _ _ _ _ _ (_ :: _) _ _; first | (refine wx1 ?_; clear hk a; intro a hk) | (refine wx2 ?_ ?_ <;> (intro hp; clear hk a; intro a hk)) | (refine wx3 ?_; clear hk hS a; intro w b hS a hk) | (refine wx4 ?_; clear hk hS a; intro w hS a hk) | (refine wx5 ?_; clear hk hS a; intro w v hS a hk) | fail) | refine wx0 ?_ | (refine s_end hk ?_; clear hk a; intro a hk) | fail))
      rw [← hst] at hS
      exact ⟨hlt, _, hk.sd, hS.sb, by omega⟩
    · have hin : i = n := by omega
      subst hin
      (repeat' (first | (show wpListIn _ _ _ _ _ (_ :: _) _ _; first | (refine wx1 ?_; clear hk a; intro a hk) | (refine wx2 ?_ ?_ <;> (intro hp; clear hk a; intro a hk)) | (refine wx3 ?_; clear hk hS a; intro w b hS a hk) | (refine wx4 ?_; clear hk hS a; intro w hS a hk) | (refine wx5 ?_; clear hk hS a; intro w v hS a hk) | fail) | refine wx0 ?_ | (refine s_end hk ?_; clear hk a; intro a hk) | fail))
      exact done1 hk (h := hS)
  · have e : few04 l i = few04 l n := by simp only [few04]; rw [List.take_of_length_le (by omega), List.take_of_length_le (by omega)]
    rw [e] at hS
    (repeat' (first | (show wpListIn _ _ _ _ _ (_ :: _) _ _; first | (refine wx1 ?_; clear hk a; intro a hk) | (refine wx2 ?_ ?_ <;> (intro hp; clear hk a; intro a hk)) | (refine wx3 ?_; clear hk hS a; intro w b hS a hk) | (refine wx4 ?_; clear hk hS a; intro w hS a hk) | (refine wx5 ?_; clear hk hS a; intro w v hS a hk) | fail) | refine wx0 ?_ | (refine s_end hk ?_; clear hk a; intro a hk) | fail))
    exact done1 hk (h := hS)

set_option maxHeartbeats 1000000 in
theorem own04_any (l : List PrI) (v : Value) (w0 : World) (hv : SlT l v w0) (hl : l.length ≤ 1000) : Calls Tryz.prog 41 #[v] w0
    (Ret fun v w => St w0 [OwT 77 l v] w) := by
  refine enter Tryz.func41 rfl Tryz.ntmps41 rfl (fun a hk => ?_); have hS := St.refl w0
  (repeat' (first | (show wpListIn _ _ _ _ _ (_ :: _) _ _; first | (refine wx1 ?_; clear hk a; intro a hk) | (refine wx2 ?_ ?_ <;> (intro hp; clear hk a; intro a hk)) | (refine wx3 ?_; clear hk hS a; intro w b hS a hk) | (refine wx4 ?_; clear hk hS a; intro w hS a hk) | (refine wx5 ?_; clear hk hS a; intro w v hS a hk) | fail) | refine wx0 ?_ | (refine s_end hk ?_; clear hk a; intro a hk) | fail))
  replace hS := hS.nilT 77 PrI
  replace hk := Kn.kp [3, 6, 7, 8] hk
  refine wp_for l.length (fun i v => [(3, v), (8, .int .i64 (i : Int))]) (fun i v => [OwT 77 (l.take i) v]) (fun _ _ => True) (.slice none 0 0) hk (by repeat (first | exact trivial | refine ⟨rfl, ?_⟩)) hS.sb trivial ?_
  clear hk hS a
  rintro i vo a w hi hk hS -
  have htl : (l.take i).length ≤ i := by rw [List.length_take]; omega
  by_cases hil : i < l.length
  · obtain ⟨⟨k, x⟩, hx⟩ : ∃ x, l[i]? = some x := ⟨_, List.getElem?_eq_getElem hil⟩
    have hst : l.take (i + 1) = l.take i ++ [(k, x)] := take_snoc hx
    (repeat' (first | (show wpListIn _ _ _ _ _ (_ :: _) _ _; first | (refine wx1 ?_; clear hk a; intro a hk) | (refine wx2 ?_ ?_ <;> (intro hp; clear hk a; intro a hk)) | (refine wx3 ?_; clear hk hS a; intro w b hS a hk) | (refine wx4 ?_; clear hk hS a; intro w hS a hk) | (refine wx5 ?_; clear hk hS a; intro w v hS a hk) | fail) | refine wx0 ?_ | (refine s_end hk ?_; clear hk a; intro a hk) | fail))
    refine sg hk (g_bsT (xs := [((k, x) : PrI)]) (m := 0) hk hS ?_ (hT := eT rfl) (hE := zT rfl) (hz := oT rfl)); clear hk hS a; intro w ve hS a hk
    (repeat' (first | (show wpListIn _ _ _ _ _ (_ :: _) _ _; first | (refine wx1 ?_; clear hk a; intro a hk) | (refine wx2 ?_ ?_ <;> (intro hp; clear hk a; intro a hk)) | (refine wx3 ?_; clear hk hS a; intro w b hS a hk) | (refine wx4 ?_; clear hk hS a; intro w hS a hk) | (refine wx5 ?_; clear hk hS a; intro w v hS a hk) | fail) | refine wx0 ?_ | (refine s_end hk ?_; clear hk a; intro a hk) | fail))
    rw [← hst] at hS
    exact ⟨hil, _, hk.sd, hS.sb, trivial⟩
  · have : i = l.length := by omega
    subst this
    rw [List.take_length] at hS
    (repeat' (first | (show wpListIn _ _ _ _ _ (_ :: _) _ _; first | (refine wx1 ?_; clear hk a; intro a hk) | (refine wx2 ?_ ?_ <;> (intro hp; clear hk a; intro a hk)) | (refine wx3 ?_; clear hk hS a; intro w b hS a hk) | (refine wx4 ?_; clear hk hS a; intro w hS a hk) | (refine wx5 ?_; clear hk hS a; intro w v hS a hk) | fail) | refine wx0 ?_ | (refine s_end hk ?_; clear hk a; intro a hk) | fail))
    exact done1 hk (h := hS.sb)

end Go.Proofs.YtipdgobplfkipaaGreatDoor
