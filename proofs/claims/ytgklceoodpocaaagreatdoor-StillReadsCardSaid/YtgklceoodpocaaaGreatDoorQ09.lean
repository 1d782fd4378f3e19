/- Layer 1, and its reference: numbers that stay within their ends. Layer 5, plain: what is done with nodes. Layer 5, plain: no node stands below itself, and none is told twice. A range over a function: its record, its rounds, what stands behind it. A value that owns several resources at once, of things that are not told. Nodes with nodes within, as they lie in memory. Texts are cut. Layer 5, the reference: nodes in a row are found, and put. -/
import Derived.Test.YtgklceoodpocaaaGreatDoorQ07
import Derived.Test.YtgklceoodpocaaaGreatDoorQ06
import Derived.Test.YtgklceoodpocaaaGreatDoorQ05
import Derived.Test.YtgklceoodpocaaaGreatDoorQ08
import Derived.RangeFuncRecord
import Derived.Lib.SliceRun
import Derived.WalkSpells
set_option linter.all false
namespace Go.Proofs.YtgklceoodpocaaaGreatDoor
open Go.RowKit
set_option maxRecDepth 100000
attribute [local irreducible] Go.Code.wpIn Go.wpListIn Go.Calls Gives Go.Exit.then Go.Exit.inBlock Done ObxE
def satF (x : Int) : Int := max (-2147483648) (min x 2147483647)
theorem satF_bd (x : Int) : -2147483648 ≤ satF x ∧ satF x ≤ 2147483647 := by unfold satF; omega
def addF (a b : Int) : Int := satF (satF a + satF b)
def subF (a b : Int) : Int := satF (satF a - satF b)
theorem sat_any (x : Int) (w0 : World) : Calls Tryz.prog 103 #[.int .i64 x] w0 (Ret fun v w => v = .int .i64 (satF x) ∧ St w0 [] w) := by
 refine enter Tryz.func103 rfl Tryz.ntmps103 rfl (fun a hk => ?_);have hS := St.refl w0
 (repeat (first | (refine sg hk ?_;(first | refine g_move hk ?_ | refine g_assign hk ?_ | refine g_field hk ?_ (fT rfl) | refine g_build hk ?_ (fsT rfl) (oT rfl) | refine g_pick_t hk ?_ | refine g_pick_f hk ?_ | refine g_add hk ?_ (hlo := by omega) (hhi := by omega) | refine g_sub hk ?_ (hlo := by omega) (hhi := by omega) | refine g_lss hk ?_ | refine g_leq hk ?_ | refine g_gtr hk ?_ | refine g_geq hk ?_ | refine g_eqi hk ?_ | refine g_nei hk ?_ | refine g_eqb hk ?_ Tryz.underlying4 | refine g_neb hk ?_ Tryz.underlying4 | refine g_not hk ?_ | refine g_min hk ?_ | refine g_max hk ?_ | refine g_ex0 hk ?_ | refine g_ex1 hk ?_ | refine g_extract hk ?_ | refine g_nilc hk ?_);clear hk a;intro a hk) | refine wpIn_seq ?_ | refine wpIn_block ?_ | refine wpIn_region_lit ?_ | refine q_then ?_ | refine q_thenE ?_ | refine q_thenR ?_ | refine q_inN ?_ | refine q_inR ?_ | refine q_inE ?_ | refine q_inO ?_ | refine wpIn_skip ?_ | refine wpIn_ret ?_ | refine wpIn_exit ?_ | (refine s_end hk ?_;clear hk a;intro a hk) | (refine s_skip hk ?_;clear hk a;intro a hk) | (refine s_skip0 hk ?_;clear hk a;intro a hk)))
 exact done1 hk (h := ⟨rfl, hS⟩)
theorem rsat_any (x : Int) (w0 : World) : Calls Tryz.prog 69 #[.int .i64 x] w0 (Ret fun v w => v = .int .i64 (satF x) ∧ St w0 [] w) := by
 refine enter Tryz.func69 rfl Tryz.ntmps69 rfl (fun a hk => ?_);have hS := St.refl w0
 (repeat (first | (refine sg hk ?_;(first | refine g_move hk ?_ | refine g_assign hk ?_ | refine g_field hk ?_ (fT rfl) | refine g_build hk ?_ (fsT rfl) (oT rfl) | refine g_pick_t hk ?_ | refine g_pick_f hk ?_ | refine g_add hk ?_ (hlo := by omega) (hhi := by omega) | refine g_sub hk ?_ (hlo := by omega) (hhi := by omega) | refine g_lss hk ?_ | refine g_leq hk ?_ | refine g_gtr hk ?_ | refine g_geq hk ?_ | refine g_eqi hk ?_ | refine g_nei hk ?_ | refine g_eqb hk ?_ Tryz.underlying4 | refine g_neb hk ?_ Tryz.underlying4 | refine g_not hk ?_ | refine g_min hk ?_ | refine g_max hk ?_ | refine g_ex0 hk ?_ | refine g_ex1 hk ?_ | refine g_extract hk ?_ | refine g_nilc hk ?_);clear hk a;intro a hk) | refine wpIn_seq ?_ | refine wpIn_block ?_ | refine wpIn_region_lit ?_ | refine q_then ?_ | refine q_thenE ?_ | refine q_thenR ?_ | refine q_inN ?_ | refine q_inR ?_ | refine q_inE ?_ | refine q_inO ?_ | refine wpIn_skip ?_ | refine wpIn_ret ?_ | refine wpIn_exit ?_ | (refine s_end hk ?_;clear hk a;intro a hk) | (refine s_skip hk ?_;clear hk a;intro a hk) | (refine s_skip0 hk ?_;clear hk a;intro a hk)))
 refine c_split hk (fun hb => ?_) (fun hb => ?_)
 ·(repeat (first | (refine sg hk ?_;(first | refine g_move hk ?_ | refine g_assign hk ?_ | refine g_field hk ?_ (fT rfl) | refine g_build hk ?_ (fsT rfl) (oT rfl) | refine g_pick_t hk ?_ | refine g_pick_f hk ?_ | refine g_add hk ?_ (hlo := by omega) (hhi := by omega) | refine g_sub hk ?_ (hlo := by omega) (hhi := by omega) | refine g_lss hk ?_ | refine g_leq hk ?_ | refine g_gtr hk ?_ | refine g_geq hk ?_ | refine g_eqi hk ?_ | refine g_nei hk ?_ | refine g_eqb hk ?_ Tryz.underlying4 | refine g_neb hk ?_ Tryz.underlying4 | refine g_not hk ?_ | refine g_min hk ?_ | refine g_max hk ?_ | refine g_ex0 hk ?_ | refine g_ex1 hk ?_ | refine g_extract hk ?_ | refine g_nilc hk ?_);clear hk a;intro a hk) | refine wpIn_seq ?_ | refine wpIn_block ?_ | refine wpIn_region_lit ?_ | refine q_then ?_ | refine q_thenE ?_ | refine q_thenR ?_ | refine q_inN ?_ | refine q_inR ?_ | refine q_inE ?_ | refine q_inO ?_ | refine wpIn_skip ?_ | refine wpIn_ret ?_ | refine wpIn_exit ?_ | (refine s_end hk ?_;clear hk a;intro a hk) | (refine s_skip hk ?_;clear hk a;intro a hk) | (refine s_skip0 hk ?_;clear hk a;intro a hk)))
  refine done1 hk (h := ⟨?_, hS⟩)
  have := of_decide_eq_true hb
  congr 1;unfold satF;omega
 ·(repeat (first | (refine sg hk ?_;(first | refine g_move hk ?_ | refine g_assign hk ?_ | refine g_field hk ?_ (fT rfl) | refine g_build hk ?_ (fsT rfl) (oT rfl) | refine g_pick_t hk ?_ | refine g_pick_f hk ?_ | refine g_add hk ?_ (hlo := by omega) (hhi := by omega) | refine g_sub hk ?_ (hlo := by omega) (hhi := by omega) | refine g_lss hk ?_ | refine g_leq hk ?_ | refine g_gtr hk ?_ | refine g_geq hk ?_ | refine g_eqi hk ?_ | refine g_nei hk ?_ | refine g_eqb hk ?_ Tryz.underlying4 | refine g_neb hk ?_ Tryz.underlying4 | refine g_not hk ?_ | refine g_min hk ?_ | refine g_max hk ?_ | refine g_ex0 hk ?_ | refine g_ex1 hk ?_ | refine g_extract hk ?_ | refine g_nilc hk ?_);clear hk a;intro a hk) | refine wpIn_seq ?_ | refine wpIn_block ?_ | refine wpIn_region_lit ?_ | refine q_then ?_ | refine q_thenE ?_ | refine q_thenR ?_ | refine q_inN ?_ | refine q_inR ?_ | refine q_inE ?_ | refine q_inO ?_ | refine wpIn_skip ?_ | refine wpIn_ret ?_ | refine wpIn_exit ?_ | (refine s_end hk ?_;clear hk a;intro a hk) | (refine s_skip hk ?_;clear hk a;intro a hk) | (refine s_skip0 hk ?_;clear hk a;intro a hk)))
  refine c_split hk (fun hb2 => ?_) (fun hb2 => ?_)
  ·(repeat (first | (refine sg hk ?_;(first | refine g_move hk ?_ | refine g_assign hk ?_ | refine g_field hk ?_ (fT rfl) | refine g_build hk ?_ (fsT rfl) (oT rfl) | refine g_pick_t hk ?_ | refine g_pick_f hk ?_ | refine g_add hk ?_ (hlo := by omega) (hhi := by omega) | refine g_sub hk ?_ (hlo := by omega) (hhi := by omega) | refine g_lss hk ?_ | refine g_leq hk ?_ | refine g_gtr hk ?_ | refine g_geq hk ?_ | refine g_eqi hk ?_ | refine g_nei hk ?_ | refine g_eqb hk ?_ Tryz.underlying4 | refine g_neb hk ?_ Tryz.underlying4 | refine g_not hk ?_ | refine g_min hk ?_ | refine g_max hk ?_ | refine g_ex0 hk ?_ | refine g_ex1 hk ?_ | refine g_extract hk ?_ | refine g_nilc hk ?_);clear hk a;intro a hk) | refine wpIn_seq ?_ | refine wpIn_block ?_ | refine wpIn_region_lit ?_ | refine q_then ?_ | refine q_thenE ?_ | refine q_thenR ?_ | refine q_inN ?_ | refine q_inR ?_ | refine q_inE ?_ | refine q_inO ?_ | refine wpIn_skip ?_ | refine wpIn_ret ?_ | refine wpIn_exit ?_ | (refine s_end hk ?_;clear hk a;intro a hk) | (refine s_skip hk ?_;clear hk a;intro a hk) | (refine s_skip0 hk ?_;clear hk a;intro a hk)))
   refine done1 hk (h := ⟨?_, hS⟩)
   have := of_decide_eq_true hb2
   congr 1;unfold satF;omega
  ·(repeat (first | (refine sg hk ?_;(first | refine g_move hk ?_ | refine g_assign hk ?_ | refine g_field hk ?_ (fT rfl) | refine g_build hk ?_ (fsT rfl) (oT rfl) | refine g_pick_t hk ?_ | refine g_pick_f hk ?_ | refine g_add hk ?_ (hlo := by omega) (hhi := by omega) | refine g_sub hk ?_ (hlo := by omega) (hhi := by omega) | refine g_lss hk ?_ | refine g_leq hk ?_ | refine g_gtr hk ?_ | refine g_geq hk ?_ | refine g_eqi hk ?_ | refine g_nei hk ?_ | refine g_eqb hk ?_ Tryz.underlying4 | refine g_neb hk ?_ Tryz.underlying4 | refine g_not hk ?_ | refine g_min hk ?_ | refine g_max hk ?_ | refine g_ex0 hk ?_ | refine g_ex1 hk ?_ | refine g_extract hk ?_ | refine g_nilc hk ?_);clear hk a;intro a hk) | refine wpIn_seq ?_ | refine wpIn_block ?_ | refine wpIn_region_lit ?_ | refine q_then ?_ | refine q_thenE ?_ | refine q_thenR ?_ | refine q_inN ?_ | refine q_inR ?_ | refine q_inE ?_ | refine q_inO ?_ | refine wpIn_skip ?_ | refine wpIn_ret ?_ | refine wpIn_exit ?_ | (refine s_end hk ?_;clear hk a;intro a hk) | (refine s_skip hk ?_;clear hk a;intro a hk) | (refine s_skip0 hk ?_;clear hk a;intro a hk)))
   refine done1 hk (h := ⟨?_, hS⟩)
   have := of_decide_eq_false hb
   have := of_decide_eq_false hb2
   congr 1;unfold satF;omega
end Go.Proofs.YtgklceoodpocaaaGreatDoor
namespace Go.Proofs.YtgklceoodpocaaaGreatDoor
structure DomP where
 most : Int
 next : Int
 l : List NodeP
abbrev DomP.f (D : DomP) : Nds := fnP D.l
structure WfD (D : DomP) : Prop where
 uni : (D.l.map (·.id)).Nodup
 wf : Wf D.next D.f
 most : 1 ≤ D.most ∧ D.most ≤ 65536
structure NdB (K : Nat) (n : NodeP) : Prop where
 cls : n.cls.length ≤ K
 att : n.att.length ≤ K
 sty : n.sty.length ≤ K
 kids : n.kids.length ≤ K
 ra : Rises nmS n.att
 rs : Rises nmI n.sty
structure Bnd (K : Nat) (D : DomP) : Prop where
 len : D.l.length ≤ K + 1
 nx : D.next ≤ K + 1
 nd : ∀ n ∈ D.l, NdB K n
theorem NdB.up {K K' : Nat} {n : NodeP} (h : NdB K n) (hk : K ≤ K') : NdB K' n := ⟨by have := h.cls; omega, by have := h.att; omega, by have := h.sty; omega, by have := h.kids; omega, h.ra, h.rs⟩
theorem Bnd.up {K K' : Nat} {D : DomP} (h : Bnd K D) (hk : K ≤ K') : Bnd K' D := ⟨by have := h.len; omega, by have := h.nx; omega, fun n hn => (h.nd n hn).up hk⟩
theorem Bnd.get {K : Nat} {D : DomP} (h : Bnd K D) {id : Int} {n : NodeP} (hn : fnP D.l id = some n) : NdB K n := h.nd n (fnd_mem hn)
def rootP : NodeP := ⟨0, 2, ⟨#[114, 111, 111, 116]⟩, ⟨#[]⟩, [], [], [], -1, []⟩
def newP (most : Int) : DomP := ⟨max 1 (min most 65536), 1, [rootP]⟩
theorem root_f (i : Int) : fnP [rootP] i = if i = 0 then some rootP else none := by
 unfold fnP
 by_cases h : i = 0
 ·subst h;rfl
 ·rw [if_neg (fun e => h e.symm), if_neg h];rfl
theorem newP_wf (most : Int) : WfD (newP most) := by
 have hf : ∀ {i m}, fnP [rootP] i = some m → i = 0 ∧ m = rootP := fun {i m} h => by
  rw [root_f] at h
  split at h
  ·cases h;exact ⟨by assumption, rfl⟩
  ·cases h
 refine ⟨by simp [newP], ⟨by simp [newP], fun i m hm => ?_, ⟨rootP, by simp [DomP.f, newP, root_f], rfl, rfl⟩, fun i m hm => ?_, fun i m hm k hk => ?_, fun i m hm => ?_, fun i m hm => ?_, fun i => ?_, fun i => ?_⟩, by simp only [newP];omega⟩
 ·obtain ⟨rfl, rfl⟩ := hf hm;exact ⟨rfl, Int.le_refl 0, show (0 : Int) < 1 by decide⟩
 ·obtain ⟨rfl, rfl⟩ := hf hm;exact .inr rfl
 ·obtain ⟨rfl, rfl⟩ := hf hm;cases hk
 ·obtain ⟨rfl, rfl⟩ := hf hm;exact .inl rfl
 ·obtain ⟨rfl, rfl⟩ := hf hm;exact List.nodup_nil
 ·exact .intro i fun y ⟨m, hm, hy⟩ => by obtain ⟨rfl, rfl⟩ := hf hm;cases hy
 ·refine .intro i fun y ⟨m, hm, hy⟩ => ?_
  obtain ⟨rfl, rfl⟩ := hf hm
  subst hy
  exact .intro _ fun z ⟨m, hm, hz⟩ => by
   obtain ⟨h, -⟩ := hf hm
   cases h
theorem newP_bnd (most : Int) (K : Nat) : Bnd K (newP most) := by
 refine ⟨by simp [newP], by simp [newP];omega, fun n hn => ?_⟩
 simp only [newP, List.mem_singleton] at hn
 subst hn
 exact ⟨Nat.zero_le _, Nat.zero_le _, Nat.zero_le _, Nat.zero_le _, List.Pairwise.nil, List.Pairwise.nil⟩
section
open Classical
noncomputable def addP (D : DomP) (kind : Int) (tag text : ByteArray) : DomP × Int × Int :=
 if (D.l.length : Int) > D.most then (D, 0, 8) else ({ D with next := D.next + 1, l := D.l ++ [⟨D.next, kind, tag, text, [], [], [], -1, []⟩] }, D.next, 0)
noncomputable def elemP (D : DomP) (tag : ByteArray) : DomP × Int × Int := if nameS tag = true then addP D 2 tag ⟨#[]⟩ else (D, 0, 2)
noncomputable def textP (D : DomP) (s : ByteArray) : DomP × Int × Int := addP D 1 ⟨#[]⟩ s
noncomputable def insP (D : DomP) (parent at_ id : Int) : DomP × Int :=
 match D.f parent, D.f id with
 | some p, some n =>
  if p.kind ≠ 2 then (D, 14)
  else if id = 0 ∨ n.par ≠ -1 ∨ Win D.f id parent ∨ at_ < 0 ∨ at_ > p.kids.length then (D, 1)
  else ({ D with l := putP (putP D.l { p with kids := insF p.kids at_.toNat id }) { n with par := parent } }, 0)
 | _, _ => (D, 11)
def woP (l : List Int) (id : Int) : List Int := l.filter (fun x => decide (x ≠ id))
noncomputable def movDP (D : DomP) (id at_ : Int) : DomP × Int :=
 match D.f id with
 | none => (D, 11)
 | some n => match D.f n.par with
  | none => (D, 1)
  | some p => if at_ < 0 ∨ at_ ≥ p.kids.length then (D, 1) else ({ D with l := putP D.l { p with kids := insF (woP p.kids id) at_.toNat id } }, 0)
def leaP (l : List NodeP) (n : NodeP) : List NodeP :=
 match fnP l n.par with
 | none => l
 | some p => putP l { p with kids := woP p.kids n.id }
noncomputable def remL (l : List NodeP) (n : NodeP) : List NodeP := (leaP l n).filter (fun x => decide (x.id ∉ preN (fnP (leaP l n)) n.id))
noncomputable def remP (D : DomP) (id : Int) : DomP × Int :=
 match D.f id with
 | none => (D, 11)
 | some n => if id = 0 then (D, 1) else ({ D with l := remL D.l n }, 0)
def kndC (kind : Int) : Int := if kind = 1 then 1 else 2
def ownP (D : DomP) (id kind : Int) (name : ByteArray) : Int :=
 match D.f id with
 | none => 11
 | some n => if id = 0 then 1 else if n.kind ≠ kind then 14 else if kind = 2 ∧ nameS name = false then 2 else 0
noncomputable def chgP (kind : Int) (n : NodeP) (name v : ByteArray) (num : Int) : Option NodeP :=
 if kind = 0 then some { n with tag := name }
 else if kind = 1 then some { n with text := v }
 else if kind = 2 then some { n with att := putF nmS n.att (name, v) }
 else if kind = 3 then if (lastF nmS n.att name).isSome then some { n with att := n.att.filter (fun x => !decide (x.1 = name)) } else none
 else if kind = 4 then some { n with sty := putF nmI n.sty (name, satF num) }
 else if kind = 5 then if (lastF nmI n.sty name).isSome then some { n with sty := n.sty.filter (fun x => !decide (x.1 = name)) } else none
 else if kind = 6 then if name ∈ n.cls then none else some { n with cls := n.cls ++ [name] }
 else if name ∈ n.cls then some { n with cls := n.cls.filter (fun x => !decide (x = name)) } else none
noncomputable def setP (D : DomP) (kind id : Int) (name v : ByteArray) (num : Int) : DomP × Int :=
 match D.f id with
 | none => (D, 11)
 | some n => if ownP D id (kndC kind) name ≠ 0 then (D, ownP D id (kndC kind) name) else
  match chgP kind n name v num with
  | none => (D, 1)
  | some n' => ({ D with l := putP D.l n' }, 0)
end
theorem wo_mem {l : List Int} {id x : Int} : x ∈ woP l id ↔ x ∈ l ∧ x ≠ id := by simp [woP]
theorem wo_nodup {l : List Int} (h : l.Nodup) (id : Int) : (woP l id).Nodup := h.filter _
theorem ins_perm {α : Type} (l : List α) (i : Nat) (e : α) : List.Perm (insF l i e) (e :: l) := by
 unfold insF
 have : List.Perm (l.take i ++ e :: l.drop i) (e :: (l.take i ++ l.drop i)) := List.perm_middle
 rwa [List.take_append_drop] at this
theorem insLen5 {α : Type} (l : List α) (i : Nat) (e : α) : (insF l i e).length = l.length + 1 := (ins_perm l i e).length_eq
theorem woP_len {l : List Int} {id : Int} (h : l.Nodup) (hm : id ∈ l) : (woP l id).length + 1 = l.length := by
 induction l with
 | nil => cases hm
 | cons x l ih =>
  rw [List.nodup_cons] at h
  unfold woP at *
  by_cases hx : x = id
  ·subst hx
   have : l.filter (fun y => decide (y ≠ x)) = l := List.filter_eq_self.2 fun y hy => decide_eq_true fun e => h.1 (by rw [← e];exact hy)
   rw [List.filter_cons, if_neg (by simp), this]
   rfl
  ·rw [List.filter_cons, if_pos (by simpa using hx), List.length_cons, List.length_cons, ih h.2 ((List.mem_cons.1 hm).resolve_left (fun e => hx e.symm))]
theorem addP_wf {D : DomP} (h : WfD D) {kind : Int} (hk : kind = 1 ∨ kind = 2) (tag text : ByteArray) : WfD (addP D kind tag text).1 := by
 unfold addP
 split
 ·exact h
 ·refine ⟨?_, h.wf.add (n := ⟨D.next, kind, tag, text, [], [], [], -1, []⟩) rfl rfl rfl hk fun i => ?_, h.most⟩
  ·simp only [List.map_append, List.map_cons, List.map_nil]
   rw [List.nodup_append]
   refine ⟨h.uni, by simp, fun a ha b hb e => ?_⟩
   rw [List.mem_singleton] at hb
   obtain ⟨n, hn, rfl⟩ := List.mem_map.1 ha
   have := h.wf.idn _ _ (fnd_of_mem h.uni hn)
   omega
  ·show fnP (D.l ++ [_]) i = _
   rw [fnd_app]
   by_cases hi : i = D.next
   ·subst hi
    rw [show fnP D.l D.next = none from h.wf.big (Int.le_refl _)]
    simp
   ·rw [if_neg hi]
    cases hf : D.f i with
    | none => rw [show fnP D.l i = none from hf];simp only;rw [if_neg (fun e => hi e.symm)]
    | some m => rw [show fnP D.l i = some m from hf]
theorem addP_bnd {K : Nat} {D : DomP} (h : Bnd K D) (kind : Int) (tag text : ByteArray) : Bnd (K + 1) (addP D kind tag text).1 := by
 unfold addP
 split
 ·exact h.up (by omega)
 ·refine ⟨by have := h.len;simp only [List.length_append, List.length_cons, List.length_nil];omega, by have := h.nx;simp only;omega, fun n hn => ?_⟩
  rcases List.mem_append.1 hn with hn | hn
  ·exact (h.nd n hn).up (by omega)
  ·rw [List.mem_singleton] at hn
   subst hn
   exact ⟨Nat.zero_le _, Nat.zero_le _, Nat.zero_le _, Nat.zero_le _, List.Pairwise.nil, List.Pairwise.nil⟩
theorem elemP_wf {D : DomP} (h : WfD D) (tag : ByteArray) : WfD (elemP D tag).1 := by
 unfold elemP;split
 ·exact addP_wf h (.inr rfl) _ _
 ·exact h
theorem elemP_bnd {K : Nat} {D : DomP} (h : Bnd K D) (tag : ByteArray) : Bnd (K + 1) (elemP D tag).1 := by
 unfold elemP;split
 ·exact addP_bnd h _ _ _
 ·exact h.up (by omega)
theorem textP_wf {D : DomP} (h : WfD D) (s : ByteArray) : WfD (textP D s).1 := addP_wf h (.inl rfl) _ _
theorem textP_bnd {K : Nat} {D : DomP} (h : Bnd K D) (s : ByteArray) : Bnd (K + 1) (textP D s).1 := addP_bnd h _ _ _
theorem put_bnd {K : Nat} {D : DomP} (h : Bnd K D) {n : NodeP} (hn : NdB K n) : Bnd K { D with l := putP D.l n } :=
 ⟨by have := h.len;simp only [put_len0];exact this, h.nx, fun x hx => (put_mem0 hx).elim (fun e => e ▸ hn) (h.nd x)⟩
theorem insP_wf {D : DomP} (h : WfD D) (parent at_ id : Int) : WfD (insP D parent at_ id).1 := by
 unfold insP
 split
 ·rename_i p n hp hn
  split
  ·exact h
  ·split
   ·exact h
   ·rename_i hc
    simp only [not_or] at hc
    obtain ⟨h0, hl, hw, -, -⟩ := hc
    have ep : p.id = parent := fnd_id hp
    have en : n.id = id := fnd_id hn
    have hne : parent ≠ id := fun e => hw (by rw [e];exact .refl hn)
    have hmem : id ∉ p.kids := fun hm => by
     obtain ⟨c, hc, hcp⟩ := h.wf.down parent p hp id hm
     rw [hn] at hc;cases hc
     have := h.wf.idn parent p hp
     omega
    refine ⟨?_, h.wf.ins hp hn h0 (by omega) hw (ks := insF p.kids at_.toNat id) (fun x => ?_) ?_ (fun i => ?_), h.most⟩
    ·rw [put_ids, put_ids];exact h.uni
    ·rw [(ins_perm _ _ _).mem_iff, List.mem_cons]
    ·rw [(ins_perm _ _ _).nodup_iff, List.nodup_cons];exact ⟨hmem, h.wf.nod parent p hp⟩
    ·have h1 : ∀ i, fnP (putP D.l { p with kids := insF p.kids at_.toNat id }) i = if i = parent then some { p with kids := insF p.kids at_.toNat id } else D.f i := fun i => by
      rw [fnd_put_some (n := { p with kids := insF p.kids at_.toNat id }) (m := p) (by simp only [ep];exact hp)]
      simp only [ep]
     show fnP (putP (putP D.l _) _) i = _
     rw [fnd_put_some (n := { n with par := parent }) (m := n) (by rw [h1];simp only [en];rw [if_neg (Ne.symm hne)];exact hn), h1]
     simp only [en]
 ·exact h
theorem insP_bnd {K : Nat} {D : DomP} (h : Bnd K D) (parent at_ id : Int) : Bnd (K + 1) (insP D parent at_ id).1 := by
 unfold insP
 split
 ·rename_i p n hp hn
  split
  ·exact h.up (by omega)
  ·split
   ·exact h.up (by omega)
   ·have b1 := h.get hp
    have b2 := h.get hn
    have hk := insLen5 p.kids at_.toNat id
    exact put_bnd (D := { D with l := putP D.l { p with kids := insF p.kids at_.toNat id } }) (put_bnd (h.up (Nat.le_succ K)) (n := { p with kids := insF p.kids at_.toNat id }) ⟨by have := b1.cls;simp only;omega, by have := b1.att;simp only;omega, by have := b1.sty;simp only;omega, by have := b1.kids;simp only;omega, b1.ra, b1.rs⟩)
     ⟨by have := b2.cls;simp only;omega, by have := b2.att;simp only;omega, by have := b2.sty;simp only;omega, by have := b2.kids;simp only;omega, b2.ra, b2.rs⟩
 ·exact h.up (by omega)
theorem movP_wf {D : DomP} (h : WfD D) (id at_ : Int) : WfD (movDP D id at_).1 := by
 unfold movDP
 split
 ·exact h
 ·rename_i n hn
  split
  ·exact h
  ·rename_i p hp
   split
   ·exact h
   ·have ep : p.id = n.par := fnd_id hp
    have hm : id ∈ p.kids := by
     rcases h.wf.par hn with ⟨-, k⟩ | ⟨-, q, k, k2⟩
     ·rw [k] at hp;cases hp
     ·rw [k] at hp;cases hp;exact k2
    refine ⟨?_, h.wf.kids hp (ks := insF (woP p.kids id) at_.toNat id) (fun x => ?_) ?_ (fun i => ?_), h.most⟩
    ·rw [put_ids];exact h.uni
    ·rw [(ins_perm _ _ _).mem_iff, List.mem_cons, wo_mem]
     by_cases e : x = id
     ·subst e;exact ⟨fun _ => hm, fun _ => .inl rfl⟩
     ·exact ⟨fun k => (k.resolve_left e).1, fun k => .inr ⟨k, e⟩⟩
    ·rw [(ins_perm _ _ _).nodup_iff, List.nodup_cons]
     exact ⟨fun k => (wo_mem.1 k).2 rfl, wo_nodup (h.wf.nod _ p hp) id⟩
    ·show fnP (putP D.l _) i = _
     rw [fnd_put_some (n := { p with kids := insF (woP p.kids id) at_.toNat id }) (m := p) (by simp only [ep];exact hp)]
     simp only [ep]
theorem movP_bnd {K : Nat} {D : DomP} (h : Bnd K D) (id at_ : Int) : Bnd (K + 1) (movDP D id at_).1 := by
 unfold movDP
 split
 ·exact h.up (by omega)
 ·split
  ·exact h.up (by omega)
  ·rename_i p hp
   split
   ·exact h.up (by omega)
   ·have b1 := h.get hp
    have hk := insLen5 (woP p.kids id) at_.toNat id
    have hk2 : (woP p.kids id).length ≤ p.kids.length := List.length_filter_le _ _
    exact put_bnd (h.up (Nat.le_succ K)) ⟨by have := b1.cls;simp only;omega, by have := b1.att;simp only;omega, by have := b1.sty;simp only;omega, by have := b1.kids;simp only;omega, b1.ra, b1.rs⟩
theorem lea_ids (l : List NodeP) (n : NodeP) : (leaP l n).map (·.id) = l.map (·.id) := by
 unfold leaP
 split
 ·rfl
 ·rw [put_ids]
theorem lea_f {D : DomP} (h : WfD D) {id : Int} {n : NodeP} (hn : D.f id = some n) : fnP (leaP D.l n) = cutN D.f id := by
 have en : n.id = id := fnd_id hn
 funext i
 unfold leaP
 split
 ·rename_i hp
  exact h.wf.cut0 hn hp i
 ·rename_i p hp
  have ep : p.id = n.par := fnd_id hp
  refine h.wf.cut1 (f' := fnP (putP D.l { p with kids := woP p.kids n.id })) hn hp (fun i => ?_) i
  rw [fnd_put_some (n := { p with kids := woP p.kids n.id }) (m := p) (by simp only [ep];exact hp)]
  show (if i = p.id then some _ else _) = _
  simp only [show (i = p.id) = (i = n.par) by rw [ep]]
  subst en
  rfl
theorem remP_wf {D : DomP} (h : WfD D) (id : Int) : WfD (remP D id).1 := by
 unfold remP
 split
 ·exact h
 ·rename_i n hn
  split
  ·exact h
  ·rename_i h0
   have en : n.id = id := fnd_id hn
   have ef := lea_f h hn
   refine ⟨?_, h.wf.rem h0 (fun i => ?_), h.most⟩
   ·have : List.Sublist ((remL D.l n).map (·.id)) ((leaP D.l n).map (·.id)) := List.Sublist.map _ List.filter_sublist
    rw [lea_ids] at this
    exact h.uni.sublist this
   ·show fnP (remL D.l n) i = _
    unfold remL
    rw [fnd_filter _ (fun i => decide (i ∉ preN (fnP (leaP D.l n)) n.id)), ef, en]
    by_cases hi : i ∈ preN (cutN D.f id) id
    ·rw [if_neg (by simpa using hi), if_pos hi]
    ·rw [if_pos (by simpa using hi), if_neg hi]
theorem remP_bnd {K : Nat} {D : DomP} (h : Bnd K D) (id : Int) : Bnd K (remP D id).1 := by
 unfold remP
 split
 ·exact h
 ·rename_i n hn
  split
  ·exact h
  ·have hb : Bnd K { D with l := leaP D.l n } := by
    unfold leaP
    split
    ·exact h
    ·rename_i p hp
     have b1 := h.get hp
     have hk2 : (woP p.kids n.id).length ≤ p.kids.length := List.length_filter_le _ _
     exact put_bnd h ⟨b1.cls, b1.att, b1.sty, by have := b1.kids;simp only;omega, b1.ra, b1.rs⟩
   exact ⟨Nat.le_trans (List.length_filter_le _ _) hb.len, h.nx, fun x hx => hb.nd x (List.mem_filter.1 hx).1⟩
theorem chg_shN {kind num : Int} {n n' : NodeP} {name v : ByteArray} (h : chgP kind n name v num = some n') : shN n' = shN n := by
 unfold chgP at h
 repeat' split at h
 all_goals first | (cases h;rfl) | cases h
theorem chg_bnd {K : Nat} {kind num : Int} {n n' : NodeP} {name v : ByteArray} (b : NdB K n) (h : chgP kind n name v num = some n') : NdB (K + 1) n' := by
 have p1 := put_len nmS n.att (name, v)
 have p2 := put_len nmI n.sty (name, satF num)
 have q1 := List.length_filter_le (fun x => !decide (x.1 = name)) n.att
 have q2 := List.length_filter_le (fun x => !decide (x.1 = name)) n.sty
 have q3 := List.length_filter_le (fun x => !decide (x = name)) n.cls
 obtain ⟨b1, b2, b3, b4, b5, b6⟩ := b
 unfold chgP at h
 repeat' split at h
 all_goals first
  | cases h;done
  | (cases h;exact ⟨by simp only [List.length_append, List.length_cons, List.length_nil];omega, by simp only;omega, by simp only;omega, by simp only;omega, by first | exact b5 | exact put_rises nmS b5 | exact filter_rises nmS b5 _, by first | exact b6 | exact put_rises nmI b6 | exact filter_rises nmI b6 _⟩)
  | (cases h;exact ⟨by simp only;omega, by simp only;omega, by simp only;omega, by simp only;omega, by first | exact b5 | exact put_rises nmS b5 | exact filter_rises nmS b5 _, by first | exact b6 | exact put_rises nmI b6 | exact filter_rises nmI b6 _⟩)
theorem shN_put {D : DomP} {n n' : NodeP} {id : Int} (hn : D.f id = some n) (hs : shN n' = shN n) (i : Int) : (fnP (putP D.l n') i).map shN = (D.f i).map shN := by
 have e : n'.id = id := by have := congrArg (·.1) hs;simp only at this;rw [this];exact fnd_id hn
 rw [fnd_put_some (n := n') (m := n) (by rw [e];exact hn), e]
 by_cases hi : i = id
 ·subst hi;rw [if_pos rfl, hn];exact congrArg some hs
 ·rw [if_neg hi]
theorem setP_wf {D : DomP} (h : WfD D) (kind id : Int) (name v : ByteArray) (num : Int) : WfD (setP D kind id name v num).1 := by
 unfold setP
 split
 ·exact h
 ·rename_i n hn
  split
  ·exact h
  ·split
   ·exact h
   ·rename_i n' hc
    exact ⟨by rw [put_ids];exact h.uni, h.wf.same (shN_put hn (chg_shN hc)), h.most⟩
theorem setP_bnd {K : Nat} {D : DomP} (h : Bnd K D) (kind id : Int) (name v : ByteArray) (num : Int) : Bnd (K + 1) (setP D kind id name v num).1 := by
 unfold setP
 split
 ·exact h.up (by omega)
 ·rename_i n hn
  split
  ·exact h.up (by omega)
  ·split
   ·exact h.up (by omega)
   ·rename_i n' hc
    exact put_bnd (h.up (Nat.le_succ K)) (chg_bnd (h.get hn) hc)
end Go.Proofs.YtgklceoodpocaaaGreatDoor
namespace Go.Proofs.YtgklceoodpocaaaGreatDoor
theorem no_round {next : Int} {f : Nds} (h : Wf next f) {b k : Int} {n : NodeP} (hb : f b = some n) (hk : k ∈ n.kids) : ¬ Win f k b := by
 intro hw
 have hwf : WellFounded (parOf f) := ⟨h.accU⟩
 have hle : ∀ {x y : Int}, Win f x y → depU f hwf x ≤ depU f hwf y := fun {x y} hxy => by
  induction hxy with
  | refl _ => exact Nat.le_refl _
  | step ha _ ih => rw [depU_some hwf ha];omega
 obtain ⟨c, hc, hp⟩ := h.down b n hb k hk
 have h1 := depU_some hwf hc
 rw [hp] at h1
 have := hle hw
 omega
theorem win_two {f : Nds} {a b x : Int} (h1 : Win f a x) (h2 : Win f b x) : Win f a b ∨ Win f b a := by
 induction h1 with
 | refl h => exact .inr h2
 | step hx hp ih =>
  rename_i x n
  rcases (win_iff hx).1 h2 with rfl | h3
  ·exact .inl (.step hx hp)
  ·exact ih h3
theorem pre_nodup {next : Int} {f : Nds} (h : Wf next f) (id : Int) : (preN f id).Nodup := by
 induction h.accD id with
 | intro id _ ih =>
  cases hn : f id with
  | none => rw [pre_none hn];exact List.nodup_nil
  | some n =>
   rw [pre_some h.accD hn, List.nodup_cons]
   constructor
   ·intro hm
    obtain ⟨l, hl, hx⟩ := List.mem_flatten.1 hm
    obtain ⟨k, hk, rfl⟩ := List.mem_map.1 hl
    have hw := pre_win h hx
    rw [(h.idn id n hn).1] at hw
    exact no_round h hn hk hw
   ·have hks := h.nod id n hn
    have hkk : ∀ k ∈ n.kids, ∃ c, f k = some c ∧ c.par = id := h.down id n hn
    have hkn : ∀ k ∈ n.kids, kidOf f k id := fun k hk => ⟨n, hn, hk⟩
    have hrd : ∀ k ∈ n.kids, ¬ Win f k id := fun k hk => no_round h hn hk
    generalize n.kids = ks at hks hkk hkn hrd
    induction ks with
    | nil => exact List.nodup_nil
    | cons k ks ihk =>
     rw [List.nodup_cons] at hks
     rw [List.map_cons, List.flatten_cons, List.nodup_append]
     refine ⟨ih k (hkn k (by simp)), ihk hks.2 (fun j hj => hkk j (by simp [hj])) (fun j hj => hkn j (by simp [hj])) (fun j hj => hrd j (by simp [hj])), fun x hx y hy e => ?_⟩
     subst e
     obtain ⟨l, hl, hy⟩ := List.mem_flatten.1 hy
     obtain ⟨j, hj, rfl⟩ := List.mem_map.1 hl
     have w1 := pre_win h hx
     have w2 := pre_win h hy
     obtain ⟨c1, hc1, hp1⟩ := hkk k (by simp)
     obtain ⟨c2, hc2, hp2⟩ := hkk j (by simp [hj])
     have hne : k ≠ j := fun e => hks.1 (by rw [e];exact hj)
     rcases win_two w1 w2 with h3 | h3
     ·rcases (win_iff hc2).1 h3 with e | h4
      ·exact hne e.symm
      ·rw [hp2] at h4;exact hrd k (by simp) h4
     ·rcases (win_iff hc1).1 h3 with e | h4
      ·exact hne e
      ·rw [hp1] at h4;exact hrd j (by simp [hj]) h4
theorem nodup_leP {β : Type} [DecidableEq β] : ∀ {l m : List β}, l.Nodup → (∀ x ∈ l, x ∈ m) → l.length ≤ m.length
 | [], _, _, _ => by simp
 | x :: l, m, hn, h => by
  have hx : x ∈ m := h x (by simp)
  have hn' := List.nodup_cons.1 hn
  have := nodup_leP (m := m.erase x) hn'.2 (fun y hy => by
   have hne : y ≠ x := fun e => hn'.1 (by rw [← e];exact hy)
   exact (List.mem_erase_of_ne hne).2 (h y (by simp [hy])))
  rw [List.length_erase_of_mem hx] at this
  have := List.length_pos_of_mem hx
  simp only [List.length_cons]
  omega
theorem pre_len {D : DomP} (h : WfD D) (id : Int) : (preN D.f id).length ≤ D.l.length := by
 have hsub : ∀ x ∈ preN D.f id, x ∈ D.l.map (·.id) := fun x hx => by
  obtain ⟨n, hn⟩ := (pre_win h.wf hx).has
  exact List.mem_map.2 ⟨n, fnd_mem hn, fnd_id hn⟩
 have := nodup_leP (pre_nodup h.wf id) hsub
 rwa [List.length_map] at this
theorem pre_cut {next : Int} {f : Nds} (h : Wf next f) (id : Int) : ∀ x, Win f id x → preN (cutN f id) x = preN f x := fun x => by
 induction h.accD x with
 | intro x _ ih =>
  intro hw
  obtain ⟨n, hn⟩ := hw.has
  have hni : id ∉ n.kids := fun hm => no_round h hn hm hw
  have hk : (cutK id n).kids = n.kids := List.filter_eq_self.2 fun y hy => decide_eq_true fun e => hni (by rw [← e];exact hy)
  rw [pre_some (cut_acc h id) (cutN_of hn), pre_some h.accD hn, hk]
  show n.id :: _ = _
  congr 2
  refine List.map_congr_left fun y hy => ?_
  obtain ⟨c, hc, hp⟩ := h.down x n hn y hy
  exact ih y ⟨n, hn, hy⟩ (.step hc (by rw [hp];exact hw))
end Go.Proofs.YtgklceoodpocaaaGreatDoor
namespace Go.Proofs.YtgklceoodpocaaaGreatDoor
variable {df : List Deferred} {rr : Option Nat}
open Go.RowKit
def obj (b : Nat) (o : Obj) : HP where
 holds F w := F b ∧ (∀ c, F c → c = b) ∧ w.heap[b]? = some o
 stable := fun F w w' ⟨h1, h2, h3⟩ h => ⟨h1, h2, by rw [h b h1];exact h3⟩
 dom := fun F w c ⟨h1, h2, h3⟩ hc => by
  rw [h2 c hc]
  rcases Nat.lt_or_ge b w.heap.size with h' | h'
  ·exact h'
  ·rw [Array.getElem?_eq_none h'] at h3;cases h3
def lrec (fn : FuncId) (tmps : Array Value) (ps : Array Tmp) (assign body : Code) (D : Nat) (s : LoopState) (pe : Option Code) : Obj :=
 .loop { state := s, pending := pe, fn, tmps, params := ps, assign, body, defers := D }
def BegK (P : Program) (b : Nat) (body : Code) (R : Ending → World → Prop) (a : Act) (w : World) : Prop :=
 ∃ w₂, (Instr.beginRound b).run P w = .ok () w₂ ∧ body.wpIn (FR (some b)) 0 P (roundPost P b R) a w₂
section
variable {P : Program} {Q : Exit → Act → World → Prop} {a : Act} {w w' : World} {w0 : Bs} {n : Nat} {l l0 : List (Nat × Value)} {L L' : List HP}
 {dst : Option Nat} {R : Value → World → Prop} {ty : TypeId} {pos : String} {af : Array Edge} {g : Option (Nat × Bool)}
 {fn : FuncId} {tmps : Array Value} {ps : Array Tmp} {assign body : Code} {D b : Nat}
def mk_ (D : Nat) : List Deferred := [{ target := .collected D, args := #[] }]
def DoneM (P : Program) (fn : Func) (R : Value → World → Prop) : Exit → Act → World → Prop := bodyPostM Fence.wide 0 P fn (Ret R)
theorem done0n {fn : Func} (hk : Kn [] n a l) (hr : fn.results = #[] := by rfl) (h : R (.tuple #[]) w) : Done P fn R .normal a w :=
 bodyPost_end (results_none hr _ _ _) hk.defers ⟨_, rfl, h⟩
theorem g_eqN {x : Operand} {t t' E m c n' c' : Nat} {ao : Option Addr} (hk : Kn df n a l) (h : R (.bool ao.isNone) w) (hx : ev l x = some (.slice ao m c) := by rfl) (hT : elOf P t = some E) :
  Gives P ⟨dst, .binOp .eql t x (.const (.slice none n' c')) t', ty, pos, af, g⟩ a w R :=
 givesv (v := .bool ao.isNone) (by
  have h1 := Lib.run_eql_slice_nil (P := P) w t E ao m c n' c' (elOf_und hT)
  have h2 : a.eval (.const (.slice none n' c')) = .slice none n' c' := rfl
  simp [execOp, hk.eval hx, h2, eqGuard, Sem.run_bind, h1]) h
end
end Go.Proofs.YtgklceoodpocaaaGreatDoor
namespace Go.Proofs.YtgklceoodpocaaaGreatDoor
open Go.RowKit
theorem Sep.split {w : World} : ∀ {L1 L2 : List HP} {F : Nat → Prop}, Sep (L1 ++ L2) F w → ∃ F1 F2 : Nat → Prop, (∀ b, F1 b → F b) ∧ (∀ b, F2 b → F b) ∧ (∀ b, F1 b → F2 b → False) ∧ Sep L1 F1 w ∧ Sep L2 F2 w
 | [], _, F, h => ⟨fun _ => False, F, fun _ h => h.elim, fun _ h => h, fun _ h _ => h, trivial, h⟩
 | A :: L1, L2, F, ⟨G1, G2, h1, h2, h3, h4, h5⟩ => by
  obtain ⟨F1, F2, k1, k2, k3, k4, k5⟩ := Sep.split (L1 := L1) h5
  exact ⟨fun b => G1 b ∨ F1 b, F2, fun b h => h.elim (h1 b) (fun h => h2 b (k1 b h)), fun b h => h2 b (k2 b h), fun b h1 hF => h1.elim (fun hG => h3 b hG (k2 b hF)) (fun hG => k3 b hG hF),
   ⟨G1, F1, fun b h => .inl h, fun b h => .inr h, fun b hG hF => h3 b hG (k1 b hF), h4, k4⟩, k5⟩
def bagH {α : Type} (A : α → List HP) (p : α → Prop) : HP where
 holds F w := (∀ b, F b → b < w.heap.size) ∧ ∃ x, p x ∧ Sep (A x) F w
 stable F w w' h hF := by
  obtain ⟨h1, x, hp, hs⟩ := h
  refine ⟨fun b hb => ?_, x, hp, hs.stable hF⟩
  have h2 := hF b hb
  rcases Nat.lt_or_ge b w'.heap.size with h | h
  ·exact h
  ·rw [Array.getElem?_eq_none h, Array.getElem?_eq_getElem (h1 b hb)] at h2;cases h2
 dom F w b h hb := h.1 b hb
theorem bagH.of {α : Type} {A : α → List HP} {p : α → Prop} {B : Bs} {w : World} {L : List HP} {x : α} (h : St B (A x ++ L) w) (hp : p x) : St B (bagH A p :: L) w := by
 obtain ⟨F, hF, hs⟩ := h.own
 obtain ⟨F1, F2, h1, h2, h3, h4, h5⟩ := hs.split
 exact ⟨h.below, h.frz, F, hF, F1, F2, h1, h2, h3, ⟨fun b hb => (hF b (h1 b hb)).2, x, hp, h4⟩, h5⟩
theorem St.bag {α : Type} {A : α → List HP} {p : α → Prop} {B : Bs} {w : World} {L L' : List HP} (h : St B L w) (hat : At (bagH A p) L L') : ∃ x, p x ∧ St B (A x ++ L') w := by
 obtain ⟨F, hF, hs⟩ := h.own
 obtain ⟨F1, F2, h1, h2, h3, ⟨_, x, hp, h4⟩, h5⟩ := hs.pull hat
 exact ⟨x, hp, h.below, h.frz, F, hF, (h4.append h5 h3).mono (fun b hb => hb.elim (h1 b) (h2 b))⟩
theorem Sep.rd {w : World} {A : HP} {L L' : List HP} {F : Nat → Prop} (h : Sep L F w) (hat : At A L L') : A.rd w :=
 let ⟨F1, _, _, _, _, h4, _⟩ := h.pull hat
 ⟨F1, h4⟩
theorem bagH.rd {α : Type} {A : α → List HP} {p : α → Prop} {w : World} (h : (bagH A p).rd w) : ∃ x, p x ∧ ∃ F, Sep (A x) F w :=
 let ⟨F, _, x, hp, hs⟩ := h
 ⟨x, hp, F, hs⟩
noncomputable def only (F : Nat → Prop) (w : World) : World :=
 { w with heap := w.heap.mapIdx fun i o => @ite _ (F i) (Classical.propDecidable _) o dead }
theorem only_in {F : Nat → Prop} {w : World} {b : Nat} (h : F b) : (only F w).heap[b]? = w.heap[b]? := by
 classical
 simp only [only, Array.getElem?_mapIdx]
 cases hw : w.heap[b]? with
 | none => rfl
 | some o => simp [h]
theorem only_live {F : Nat → Prop} {w : World} {b : Nat} (h : live (only F w) b) : F b := by
 classical
 obtain ⟨o, h1, h2⟩ := h
 simp only [only, Array.getElem?_mapIdx] at h1
 cases hw : w.heap[b]? with
 | none => rw [hw] at h1;cases h1
 | some o' =>
  rw [hw] at h1
  simp only [Option.map_some, Option.some.injEq] at h1
  by_cases hf : F b
  ·exact hf
  ·rw [if_neg hf] at h1;exact absurd h1.symm h2
theorem only_frz (F : Nat → Prop) (w : World) : Frz (only F w) w := fun b o h1 h2 => by
 have hf := only_live ⟨o, h1, h2⟩
 rw [only_in hf] at h1
 exact h1
def rdH (R : World → Prop) : HP where
 holds F w := (∀ b, F b → b < w.heap.size) ∧ ∃ g : World, (∀ b, live g b → F b) ∧ Frz g w ∧ R g
 stable F w w' h hF := by
  obtain ⟨h1, g, hl, hz, hr⟩ := h
  refine ⟨fun b hb => ?_, g, hl, fun b o ho hd => ?_, hr⟩
  ·have h2 := hF b hb
   rcases Nat.lt_or_ge b w'.heap.size with h | h
   ·exact h
   ·rw [Array.getElem?_eq_none h, Array.getElem?_eq_getElem (h1 b hb)] at h2;cases h2
  ·rw [hF b (hl b ⟨o, ho, hd⟩)];exact hz b o ho hd
 dom F w b h hb := h.1 b hb
def Stays (R : World → Prop) : Prop := ∀ g w, Frz g w → R g → R w
theorem rdH.rd {R : World → Prop} (hm : Stays R) {w : World} (h : (rdH R).rd w) : R w :=
 let ⟨_, _, g, _, hz, hr⟩ := h
 hm g w hz hr
theorem Sep.all {w : World} : ∀ {L : List HP} {F : Nat → Prop}, Sep L F w → ∀ A ∈ L, ∃ F', (∀ b, F' b → F b) ∧ A.holds F' w
 | A :: L, F, ⟨F1, F2, h1, h2, _, h4, h5⟩, B, hB => by
  rcases List.mem_cons.1 hB with rfl | hB
  ·exact ⟨F1, h1, h4⟩
  ·obtain ⟨F', k1, k2⟩ := Sep.all h5 B hB
   exact ⟨F', fun b hb => h2 b (k1 b hb), k2⟩
theorem rdH.of {R : World → Prop} {B : Bs} {w : World} {L1 L : List HP} (h : St B (L1 ++ L) w) (hr : ∀ g, (∀ A ∈ L1, A.rd g) → R g) : St B (rdH R :: L) w := by
 obtain ⟨F, hF, hs⟩ := h.own
 obtain ⟨F1, F2, h1, h2, h3, h4, h5⟩ := hs.split
 refine ⟨h.below, h.frz, F, hF, F1, F2, h1, h2, h3, ⟨fun b hb => (hF b (h1 b hb)).2, only F1 w, fun b => only_live, only_frz F1 w, hr _ fun A hA => ?_⟩, h5⟩
 obtain ⟨F', k1, k2⟩ := h4.all A hA
 exact ⟨F', A.stable _ _ _ k2 fun b hb => only_in (k1 b hb)⟩
end Go.Proofs.YtgklceoodpocaaaGreatDoor
namespace Go.Proofs.YtgklceoodpocaaaGreatDoor
open Go.RowKit
abbrev Opt := Int × Int × Int × Int × Bool × Bool
inductive Tree where
 | mk (k : Int) (tag key text : ByteArray) (cl : List ByteArray) (at_ : List (ByteArray × ByteArray)) (st : List (ByteArray × Int)) (o : Opt) (kids : List Tree)
abbrev NdH := Int × ByteArray × ByteArray × ByteArray × Hd × Hd × Hd × Opt × Hd
abbrev ndV (h : NdH) : Value := .agg (Enc.f h).toArray
inductive TrR (w : World) : Tree → NdH → Prop
 | mk {k : Int} {tag key text : ByteArray} {cl : List ByteArray} {at_ : List (ByteArray × ByteArray)} {st : List (ByteArray × Int)} {o : Opt} {kids : List Tree} {hc ha hs hk : Hd} {H : List NdH}
  (h1 : SlT cl hc.v w) (h2 : SlT at_ ha.v w) (h3 : SlT st hs.v w) (h4 : SlT H hk.v w) (hl : H.length = kids.length)
  (hr : ∀ (i : Nat) (t : Tree) (h : NdH), kids[i]? = some t → H[i]? = some h → TrR w t h) : TrR w (.mk k tag key text cl at_ st o kids) (k, tag, key, text, hc, ha, hs, o, hk)
theorem TrR.frz {w w' : World} {t : Tree} {h : NdH} (hr : TrR w t h) (hf : Frz w w') : TrR w' t h := by
 induction hr with
 | mk h1 h2 h3 h4 hl _ ih => exact .mk (h1.frz hf) (h2.frz hf) (h3.frz hf) (h4.frz hf) hl ih
theorem TrR.stays (t : Tree) (h : NdH) : Stays (fun w => TrR w t h) := fun _ _ hf hr => hr.frz hf
def FoR (w : World) (ts : List Tree) (H : List NdH) : Prop := H.length = ts.length ∧ ∀ (i : Nat) (t : Tree) (h : NdH), ts[i]? = some t → H[i]? = some h → TrR w t h
theorem FoR.frz {w w' : World} {ts : List Tree} {H : List NdH} (hr : FoR w ts H) (hf : Frz w w') : FoR w' ts H := ⟨hr.1, fun i t h h1 h2 => (hr.2 i t h h1 h2).frz hf⟩
theorem FoR.stays (ts : List Tree) (H : List NdH) : Stays (fun w => FoR w ts H) := fun _ _ hf hr => hr.frz hf
theorem FoR.nil (w : World) : FoR w [] [] := ⟨rfl, fun i t h h1 _ => by simp at h1⟩
theorem FoR.snoc {w : World} {ts : List Tree} {H : List NdH} {t : Tree} {h : NdH} (hF : FoR w ts H) (hT : TrR w t h) : FoR w (ts ++ [t]) (H ++ [h]) := by
 refine ⟨by simp [hF.1], fun i t' h' h1 h2 => ?_⟩
 rcases Nat.lt_or_ge i ts.length with hi | hi
 ·rw [List.getElem?_append_left hi] at h1
  rw [List.getElem?_append_left (by rw [hF.1];exact hi)] at h2
  exact hF.2 i t' h' h1 h2
 ·rw [List.getElem?_append_right hi] at h1
  rw [List.getElem?_append_right (by rw [hF.1];exact hi), hF.1] at h2
  cases hj : i - ts.length with
  | zero =>
   rw [hj] at h1 h2
   simp at h1 h2
   subst h1 h2
   exact hT
  | succ j => rw [hj] at h1;simp at h1
theorem FoR.init {w : World} {ts : List Tree} {H : List NdH} {t : Tree} {h : NdH} (hF : FoR w (ts ++ [t]) (H ++ [h])) : FoR w ts H ∧ TrR w t h := by
 obtain ⟨h1, h2⟩ := hF
 have hl : H.length = ts.length := by simpa using h1
 refine ⟨⟨hl, fun i t' h' a b => h2 i t' h' ?_ ?_⟩, h2 ts.length t h (by simp) (by rw [← hl];simp)⟩
 ·rw [List.getElem?_append_left (lt_of_get a)];exact a
 ·rw [List.getElem?_append_left (lt_of_get b)];exact b
def appH {α : Type} [Enc α] (E : TypeId) (ys : List α) : Value → HP := match ys with
 | [] => emp0
 | y :: r => OwT E (y :: r)
theorem appH.rd {α : Type} [Enc α] {E : TypeId} {ys : List α} {v : Value} {w : World} (h : (appH E ys v).rd w) : SlT ys v w := by
 cases ys with
 | cons y r => exact OwT.rd h
 | nil =>
  obtain ⟨ao, rfl⟩ := emp0.get h
  refine ⟨by simp [enc], by simp [maxLen], ?_⟩
  cases ao with
  | none => exact .inl ⟨rfl, rfl⟩
  | some a => exact .inr ⟨a, 0, rfl, by simp, by simp [maxLen], fun j u hj => by simp [enc] at hj⟩
section
variable {df : List Deferred} {P : Program} {a : Act} {w : World} {n : Nat} {l : List (Nat × Value)} {dst : Option Nat} {ty : TypeId} {pos : String} {af : Array Edge} {g : Option (Nat × Bool)} {α : Type} [Enc α]
theorem v_appR {x y : Operand} {t tx : TypeId} {E E' : Nat} {v y0 z : Value} {ys : List α} (hk : Kn df n a l) (hv : (emp0 v).rd w)
  (hT : elOf P t = some E) (hTx : elOf P tx = some E') (hE : szOf P E = some (Enc.k α + 1)) (hz : zeroOf P E = some z) (hzs : z.cells.size = Enc.k α + 1) (hs : SlT ys y0 w) {by_ : Nat} (hby : ((P.info? E).map (·.bytes)).getD 0 = by_) (hbytes : ys.length * by_ ≤ 140737488355328) (h63 : ys.length ≤ maxLen)
  (hx : ev l x = some v := by rfl) (hy : ev l y = some y0 := by rfl) :
  Gives P ⟨dst, .call { callee := .builtin .append, args := #[x, y], argTypes := #[t, tx] }, ty, pos, af, g⟩ a w (fun v' w' => St w [appH E ys v'] w') := by
 cases ys with
 | cons u r => exact v_app0 (ys := u :: r) hk hv (by simp) hT hTx hE hz hzs hs hby hbytes h63 hx hy
 | nil =>
  have hv' : SlT ([] : List α) v w := appH.rd (E := E) hv
  refine (v_appN (α := α) hk hv' hT hTx hE hz hs hx hy).mono ?_
  rintro v' w' ⟨rfl, hS⟩
  obtain ⟨ao, rfl⟩ := emp0.get hv
  obtain ⟨F, hF, _⟩ := hS.own
  exact ⟨hS.below, hS.frz, F, hF, fun _ => False, F, fun _ h => h.elim, fun _ h => h, fun _ h _ => h, ⟨fun _ h => h, ao, rfl⟩, trivial⟩
theorem v_app2 {w0 : Bs} {X : List HP} {x y : Operand} {t tx : TypeId} {E E' : Nat} {v y0 z : Value} {xs ys : List α} (hk : Kn df n a l) (hS : St w0 (appH E xs v :: X) w)
  (hT : elOf P t = some E) (hTx : elOf P tx = some E') (hE : szOf P E = some (Enc.k α + 1)) (hz : zeroOf P E = some z) (hzs : z.cells.size = Enc.k α + 1) (hs : SlT ys y0 w) {by_ : Nat} (hby : ((P.info? E).map (·.bytes)).getD 0 = by_) (hbytes : (xs.length + ys.length) * by_ ≤ 140737488355328) (h63 : xs.length + ys.length ≤ maxLen)
  (hx : ev l x = some v := by rfl) (hy : ev l y = some y0 := by rfl) :
  Gives P ⟨dst, .call { callee := .builtin .append, args := #[x, y], argTypes := #[t, tx] }, ty, pos, af, g⟩ a w (fun v' w' => St w0 (appH E (xs ++ ys) v' :: X) w') := by
 cases xs with
 | cons u r => exact v_app hk hS hx hy hT hTx hs hE hz hzs hby hbytes h63
 | nil =>
  rw [List.length_nil, Nat.zero_add] at hbytes h63
  refine (v_appR (ys := ys) hk (hS.rd .here) hT hTx hE hz hzs hs hby hbytes h63 hx hy).mono ?_
  intro v' w' hS'
  exact (hS.call hS').sub (.cons .here .cons_drop)
end
abbrev treeR (t : Tree) (h : NdH) : HP := rdH (fun w => TrR w t h)
abbrev forR (ts : List Tree) (H : List NdH) : HP := rdH (fun w => FoR w ts H)
def treeH (t : Tree) (v : Value) : HP := bagH (fun h : NdH => [treeR t h]) (fun h => v = ndV h)
section
variable {B : Bs} {w : World} {L L' : List HP}
theorem treeR.of {k : Int} {tag key text : ByteArray} {cl : List ByteArray} {at_ : List (ByteArray × ByteArray)} {st : List (ByteArray × Int)} {o : Opt} {kids : List Tree} {hc ha hs hk : Hd} {H : List NdH} {A1 A2 A3 A4 : HP}
  (h : St B (A1 :: A2 :: A3 :: A4 :: forR kids H :: L) w) (h1 : ∀ g, A1.rd g → SlT cl hc.v g := by exact fun g h => by first | exact OwT.rd h | exact appH.rd h) (h2 : ∀ g, A2.rd g → SlT at_ ha.v g := by exact fun g h => OwT.rd h)
  (h3 : ∀ g, A3.rd g → SlT st hs.v g := by exact fun g h => OwT.rd h) (h4 : ∀ g, A4.rd g → SlT H hk.v g := by exact fun g h => OwT.rd h) : St B (treeR (.mk k tag key text cl at_ st o kids) (k, tag, key, text, hc, ha, hs, o, hk) :: L) w := by
 refine rdH.of (L1 := [A1, A2, A3, A4, forR kids H]) h fun g hg => ?_
 have hF : FoR g kids H := rdH.rd (FoR.stays kids H) (hg _ (by simp))
 exact .mk (h1 g (hg A1 (by simp))) (h2 g (hg A2 (by simp))) (h3 g (hg A3 (by simp))) (h4 g (hg A4 (by simp))) hF.1 hF.2
theorem treeH.of {t : Tree} {h : NdH} (hS : St B (treeR t h :: L) w) : St B (treeH t (ndV h) :: L) w := bagH.of (A := fun h : NdH => [treeR t h]) (x := h) hS rfl
theorem St.tree {t : Tree} {v : Value} (hS : St B L w) (hat : At (treeH t v) L L') : ∃ h, v = ndV h ∧ St B (treeR t h :: L') w := St.bag hS hat
theorem St.trR {t : Tree} {h : NdH} (hS : St B L w) (hat : At (treeR t h) L L') : TrR w t h := rdH.rd (TrR.stays t h) (hS.rd hat)
theorem St.foR {ts : List Tree} {H : List NdH} (hS : St B L w) (hat : At (forR ts H) L L') : FoR w ts H := rdH.rd (FoR.stays ts H) (hS.rd hat)
theorem forR.nil (hS : St B L w) : St B (forR [] [] :: L) w := rdH.of (L1 := []) hS fun g _ => FoR.nil g
theorem forR.snoc {ts : List Tree} {H : List NdH} {t : Tree} {h : NdH} (hS : St B (treeR t h :: forR ts H :: L) w) : St B (forR (ts ++ [t]) (H ++ [h]) :: L) w :=
 rdH.of (L1 := [treeR t h, forR ts H]) hS fun g hg => (rdH.rd (FoR.stays ts H) (hg _ (by simp))).snoc (rdH.rd (TrR.stays t h) (hg _ (by simp)))
theorem FoR.plus {g : World} {k : Int} {tag key text x : ByteArray} {cl : List ByteArray} {at_ : List (ByteArray × ByteArray)} {st : List (ByteArray × Int)} {o : Opt} {kids ts : List Tree} {hc ha hs hk : Hd} {H : List NdH}
  (h : FoR g (ts ++ [.mk k tag key text cl at_ st o kids]) (H ++ [(k, tag, key, text, hc, ha, hs, o, hk)])) : FoR g (ts ++ [.mk k tag key (text ++ x) cl at_ st o kids]) (H ++ [(k, tag, key, text ++ x, hc, ha, hs, o, hk)]) := by
 obtain ⟨h1, h2⟩ := h.init
 cases h2 with
 | mk a1 a2 a3 a4 a5 a6 => exact h1.snoc (.mk a1 a2 a3 a4 a5 a6)
theorem rdH.imp {R R' : World → Prop} (h : St B (rdH R :: L) w) (hm : Stays R) (hr : ∀ g, R g → R' g) : St B (rdH R' :: L) w := rdH.of (L1 := [rdH R]) h fun g hg => hr g (rdH.rd hm (hg _ (by simp)))
abbrev forR2 (ts us : List Tree) (H K : List NdH) : HP := rdH (fun w => FoR w ts H ∧ FoR w us K)
theorem St.rdTr {t : Tree} {h : NdH} (hS : St B L w) (hr : TrR B.g t h) : TrR w t h := hr.frz hS.frz
end
instance : Inhabited Hd := ⟨⟨none, 0, 0⟩⟩
open Classical in
noncomputable def ndOf (v : Value) : NdH := if h : ∃ x, v = ndV x then Classical.choose h else default
theorem hdv_inj {a b : Hd} (h : a.v = b.v) : a = b := by
 cases a;cases b
 simp only [Hd.v, Value.slice.injEq] at h
 obtain ⟨rfl, rfl, rfl⟩ := h
 rfl
theorem SlT.hd {α : Type} [Enc α] {xs : List α} {h : Hd} {w : World} (hs : SlT xs h.v w) : ∃ a m, h = ⟨a, xs.length, m⟩ := by
 obtain ⟨a, m, e, _⟩ := hs.shape
 exact ⟨a, m, hdv_inj e⟩
theorem TrR.split {w : World} {t : Tree} {h : NdH} (hr : TrR w t h) : ∃ k tag key text cl al sl e lv m d p q kids a1 m1 a2 m2 a3 m3 a4 m4, ∃ H : List NdH, t = .mk k tag key text cl al sl (e, lv, m, d, p, q) kids ∧
  h = (k, tag, key, text, ⟨a1, cl.length, m1⟩, ⟨a2, al.length, m2⟩, ⟨a3, sl.length, m3⟩, (e, lv, m, d, p, q), ⟨a4, H.length, m4⟩) ∧
  SlT cl (.slice a1 cl.length m1) w ∧ SlT al (.slice a2 al.length m2) w ∧ SlT sl (.slice a3 sl.length m3) w ∧ SlT H (.slice a4 H.length m4) w ∧ FoR w kids H := by
 obtain ⟨c1, c2, c3, c4, hl, hkr⟩ := hr
 rename_i k tag key text cl al sl o kids hc ha hs hk0 H
 obtain ⟨e, lv, m, d, p, q⟩ := o
 obtain ⟨a1, m1, rfl⟩ := c1.hd
 obtain ⟨a2, m2, rfl⟩ := c2.hd
 obtain ⟨a3, m3, rfl⟩ := c3.hd
 obtain ⟨a4, m4, rfl⟩ := c4.hd
 exact ⟨k, tag, key, text, cl, al, sl, e, lv, m, d, p, q, kids, a1, m1, a2, m2, a3, m3, a4, m4, H, rfl, rfl, c1, c2, c3, c4, hl, hkr⟩
def Tree.kids : Tree → List Tree
 | .mk _ _ _ _ _ _ _ _ ks => ks
theorem kid_lt {k : Int} {tag key text : ByteArray} {cl : List ByteArray} {at_ : List (ByteArray × ByteArray)} {st : List (ByteArray × Int)} {o : Opt} {kids : List Tree} {t : Tree} (h : t ∈ kids) : SizeOf.sizeOf t < SizeOf.sizeOf (Tree.mk k tag key text cl at_ st o kids) := by
 have := List.sizeOf_lt_of_mem h
 simp only [Tree.mk.sizeOf_spec]
 omega
inductive Fits : Tree → Prop
 | mk {k : Int} {tag key text : ByteArray} {cl : List ByteArray} {at_ : List (ByteArray × ByteArray)} {st : List (ByteArray × Int)} {o : Opt} {kids : List Tree}
  (h1 : cl.length ≤ 100) (h2 : at_.length ≤ 100) (h3 : st.length ≤ 100) (h4 : kids.length ≤ 1000) (h5 : ∀ t ∈ kids, Fits t) : Fits (.mk k tag key text cl at_ st o kids)
end Go.Proofs.YtgklceoodpocaaaGreatDoor
namespace Go.Proofs.YtgklceoodpocaaaGreatDoor
open Go.RowKit
set_option maxRecDepth 100000
attribute [local irreducible] Go.Code.wpIn Go.wpListIn Go.Calls Gives Go.Exit.then Go.Exit.inBlock Done ObxE
def cutF (s : ByteArray) (n : Nat) : ByteArray := if n < s.size then s.extract 0 n else s
theorem cut_any (s : ByteArray) (n : Nat) (w0 : World) : Calls Tryz.prog 45 #[.string s, .int .i64 (n : Int)] w0 (Ret fun v w => v = .string (cutF s n) ∧ St w0 [] w) := by
 refine enter Tryz.func45 rfl Tryz.ntmps45 rfl (fun a hk => ?_);have hS := St.refl w0
 by_cases hn : n < s.size
 ·have hn' : (n : Int) < (s.size : Int) := by omega
  (repeat' (first|((first|refine wx1 ?_|refine wx2 ?_ ?_<;>intro hp|refine s_end hk ?_)<;>(clear hk a;intro a hk))|((first|refine wx3 ?_;intro w b|refine wx4 ?_;intro w|refine wx5 ?_;intro w v);clear hk hS a;intro hS a hk)|refine wx0 ?_|fail))
  exact done1 hk (h := ⟨by rw [cutF, if_pos hn];rfl, hS.nil⟩)
 ·have hn' : ¬ (n : Int) < (s.size : Int) := by omega
  (repeat' (first|((first|refine wx1 ?_|refine wx2 ?_ ?_<;>intro hp|refine s_end hk ?_)<;>(clear hk a;intro a hk))|((first|refine wx3 ?_;intro w b|refine wx4 ?_;intro w|refine wx5 ?_;intro w v);clear hk hS a;intro hS a hk)|refine wx0 ?_|fail))
  exact done1 hk (h := ⟨by rw [cutF, if_neg hn], hS.nil⟩)
end Go.Proofs.YtgklceoodpocaaaGreatDoor
namespace Go.Proofs.YtgklceoodpocaaaGreatDoor
open Go.RowKit
set_option maxRecDepth 100000
attribute [local irreducible] Go.Code.wpIn Go.wpListIn Go.Calls Gives Go.Exit.then Go.Exit.inBlock Done ObxE
abbrev RnH := Int × Int × ByteArray × ByteArray × Hd × Hd × Hd × Int × Hd
abbrev rnV (h : RnH) : Value := .agg (Enc.f h).toArray
abbrev zRn : RnH := (0, 0, ⟨#[]⟩, ⟨#[]⟩, ⟨none, 0, 0⟩, ⟨none, 0, 0⟩, ⟨none, 0, 0⟩, 0, ⟨none, 0, 0⟩)
abbrev zRnC : List Value := [.int .i64 0, .int .i64 0, .string ⟨#[]⟩, .string ⟨#[]⟩, .slice none 0 0, .slice none 0 0, .slice none 0 0, .int .i64 0, .slice none 0 0]
def RnR (w : World) (n : NodeP) (h : RnH) : Prop :=
 ∃ a1 c1 a2 c2 a3 c3 a4 c4, h = (n.id, n.kind, n.tag, n.text, ⟨a1, n.cls.length, c1⟩, ⟨a2, n.att.length, c2⟩, ⟨a3, n.sty.length, c3⟩, n.par, ⟨a4, n.kids.length, c4⟩) ∧
  SlT n.cls (.slice a1 n.cls.length c1) w ∧ SlT n.att (.slice a2 n.att.length c2) w ∧ SlT n.sty (.slice a3 n.sty.length c3) w ∧ SlT n.kids (.slice a4 n.kids.length c4) w
theorem RnR.frz {w w' : World} {n : NodeP} {h : RnH} (hr : RnR w n h) (hf : Frz w w') : RnR w' n h := by
 obtain ⟨a1, c1, a2, c2, a3, c3, a4, c4, e, h1, h2, h3, h4⟩ := hr
 exact ⟨a1, c1, a2, c2, a3, c3, a4, c4, e, h1.frz hf, h2.frz hf, h3.frz hf, h4.frz hf⟩
theorem RnR.id {w : World} {n : NodeP} {h : RnH} (hr : RnR w n h) : h.1 = n.id := by
 obtain ⟨a1, c1, a2, c2, a3, c3, a4, c4, rfl, -⟩ := hr;rfl
inductive RowsR (w : World) : List NodeP → List RnH → Prop
 | nil : RowsR w [] []
 | cons {n : NodeP} {h : RnH} {l : List NodeP} {H : List RnH} (h1 : RnR w n h) (h2 : RowsR w l H) : RowsR w (n :: l) (h :: H)
theorem RowsR.frz {w w' : World} {l : List NodeP} {H : List RnH} (hr : RowsR w l H) (hf : Frz w w') : RowsR w' l H := by
 induction hr with
 | nil => exact .nil
 | cons h1 _ ih => exact .cons (h1.frz hf) ih
theorem RowsR.len {w : World} {l : List NodeP} {H : List RnH} (hr : RowsR w l H) : H.length = l.length := by
 induction hr with
 | nil => rfl
 | cons _ _ ih => rw [List.length_cons, List.length_cons, ih]
def fndR (H : List RnH) (id : Int) : Option RnH := H.find? (fun h => decide (h.1 = id))
theorem RowsR.fnd {w : World} {l : List NodeP} {H : List RnH} (hr : RowsR w l H) {id : Int} {n : NodeP} (h : fnP l id = some n) : ∃ x, fndR H id = some x ∧ RnR w n x := by
 induction hr with
 | nil => cases h
 | cons h1 _ ih =>
  rename_i m x l H _
  unfold fnP at h
  unfold fndR
  by_cases hi : m.id = id
  ·rw [if_pos hi] at h
   cases h
   rw [List.find?_cons_of_pos (by rw [h1.id];simpa using hi)]
   exact ⟨_, rfl, h1⟩
  ·rw [if_neg hi] at h
   rw [List.find?_cons_of_neg (by rw [h1.id];simpa using hi)]
   exact ih h
theorem RowsR.non {w : World} {l : List NodeP} {H : List RnH} (hr : RowsR w l H) {id : Int} (h : fnP l id = none) : fndR H id = none := by
 induction hr with
 | nil => rfl
 | cons h1 _ ih =>
  rename_i m x l H _
  unfold fnP at h
  unfold fndR
  by_cases hi : m.id = id
  ·rw [if_pos hi] at h;cases h
  ·rw [if_neg hi] at h
   rw [List.find?_cons_of_neg (by rw [h1.id];simpa using hi)]
   exact ih h
def putR (H : List RnH) (h : RnH) : List RnH := H.map (fun x => if x.1 = h.1 then h else x)
theorem RowsR.put {w : World} {l : List NodeP} {H : List RnH} (hr : RowsR w l H) {n : NodeP} {h : RnH} (hn : RnR w n h) : RowsR w (putP l n) (putR H h) := by
 induction hr with
 | nil => exact .nil
 | cons h1 _ ih =>
  rename_i m x l H _
  show RowsR w ((if m.id = n.id then n else m) :: putP l n) ((if x.1 = h.1 then h else x) :: putR H h)
  rw [h1.id, hn.id]
  by_cases hi : m.id = n.id
  ·rw [if_pos hi, if_pos hi];exact .cons hn ih
  ·rw [if_neg hi, if_neg hi];exact .cons h1 ih
theorem RowsR.filter {w : World} {l : List NodeP} {H : List RnH} (hr : RowsR w l H) (p : Int → Bool) : RowsR w (l.filter (fun n => p n.id)) (H.filter (fun h => p h.1)) := by
 induction hr with
 | nil => exact .nil
 | cons h1 _ ih =>
  rename_i m x l H _
  rw [List.filter_cons, List.filter_cons, h1.id]
  by_cases hi : p m.id = true
  ·rw [if_pos hi, if_pos hi];exact .cons h1 ih
  ·rw [if_neg hi, if_neg hi];exact ih
theorem RowsR.snoc {w : World} {l : List NodeP} {H : List RnH} (hr : RowsR w l H) {n : NodeP} {h : RnH} (hn : RnR w n h) : RowsR w (l ++ [n]) (H ++ [h]) := by
 induction hr with
 | nil => exact .cons hn .nil
 | cons h1 _ ih => exact .cons h1 ih
set_option maxHeartbeats 4000000 in
theorem rfind5_any (most next : Int) (H : List RnH) (v : Value) (id : Int) (w0 : World) (hv : SlT H v w0) (hl : H.length ≤ 100000) :
  Calls Tryz.prog 30 #[.agg #[.int .i64 most, .int .i64 next, v], .int .i64 id] w0 (Ret fun r w => r = .tuple #[rnV ((fndR H id).getD zRn), .bool (fndR H id).isSome] ∧ St w0 [] w) := by
 obtain ⟨ao, co, rfl, -⟩ := hv.shape
 refine enter Tryz.func30 rfl Tryz.ntmps30 rfl (fun a hk => ?_);have hS := St.refl w0
 refine wpIn_seq ?_;refine wpIn_region_lit ?_
 refine st_box hk hS ?_;clear hk hS a;intro w b2 hS a hk
 refine st_alloc hk hS ?_;clear hk hS a;intro w b4 hS a hk
 (repeat' (first|((first|refine wx1 ?_|refine wx2 ?_ ?_<;>intro hp|refine s_end hk ?_)<;>(clear hk a;intro a hk))|((first|refine wx3 ?_;intro w b|refine wx4 ?_;intro w|refine wx5 ?_;intro w v);clear hk hS a;intro hS a hk)|refine wx0 ?_|fail))
 replace hk := Kn.kp [1, 4, 9, 10, 11] hk
 refine wp_for H.length (fun i _ => [(11, .int .i64 (i : Int))]) (fun _ _ => [pts b4 zRnC 73]) (fun i _ => (H.take i).find? (fun h => decide (h.1 = id)) = none) () hk skx hS.sb rfl ?_
 clear hk hS a
 rintro i - a w hi hk hS hA
 by_cases hil : i < H.length
 ·obtain ⟨e, hx⟩ : ∃ x, H[i]? = some x := ⟨_, List.getElem?_eq_getElem hil⟩
  have hv1 := hS.rdT hv
  obtain ⟨id0, k0, tag0, text0, ⟨x1, x2, x3⟩, ⟨y1, y2, y3⟩, ⟨z1, z2, z3⟩, p0, ⟨u1, u2, u3⟩⟩ := e
  by_cases he : id0 = id
  ·have hf : fndR H id = some (id0, k0, tag0, text0, ⟨x1, x2, x3⟩, ⟨y1, y2, y3⟩, ⟨z1, z2, z3⟩, p0, ⟨u1, u2, u3⟩) := by
    unfold fndR
    rw [← List.take_append_drop i H, List.find?_append, hA, List.drop_eq_getElem_cons hil]
    rw [List.getElem?_eq_getElem hil] at hx
    injection hx with hx
    rw [hx, List.find?_cons_of_pos (by simpa using he)]
    rfl
   rw [hf]
   (repeat' (first|((first|refine wx1 ?_|refine wx2 ?_ ?_<;>intro hp|refine s_end hk ?_)<;>(clear hk a;intro a hk))|((first|refine wx3 ?_;intro w b|refine wx4 ?_;intro w|refine wx5 ?_;intro w v);clear hk hS a;intro hS a hk)|refine wx0 ?_|fail))
   exact done2R hk rfl (.str hS (hT := aT rfl) (hs := zT rfl)) (.tmp rfl) (h := ⟨rfl, hS.nil⟩)
  ·have hA' : (H.take (i + 1)).find? (fun h => decide (h.1 = id)) = none := by
    rw [take_snoc hx, List.find?_append, hA, List.find?_cons_of_neg (by simpa using he)]
    rfl
   (repeat' (first|((first|refine wx1 ?_|refine wx2 ?_ ?_<;>intro hp|refine s_end hk ?_)<;>(clear hk a;intro a hk))|((first|refine wx3 ?_;intro w b|refine wx4 ?_;intro w|refine wx5 ?_;intro w v);clear hk hS a;intro hS a hk)|refine wx0 ?_|fail))
   exact ⟨hil, (), hk.sd, hS.sb, hA'⟩
 ·have hii : i = H.length := by omega
  subst hii
  rw [List.take_length] at hA
  have hf : fndR H id = none := hA
  rw [hf]
  (repeat' (first|((first|refine wx1 ?_|refine wx2 ?_ ?_<;>intro hp|refine s_end hk ?_)<;>(clear hk a;intro a hk))|((first|refine wx3 ?_;intro w b|refine wx4 ?_;intro w|refine wx5 ?_;intro w v);clear hk hS a;intro hS a hk)|refine wx0 ?_|fail))
  exact done2R hk rfl (.str hS (hT := aT rfl) (hs := zT rfl)) (.tmp rfl) (h := ⟨rfl, hS.nil⟩)
set_option maxHeartbeats 4000000 in
theorem rput5_any (most next : Int) (H : List RnH) (v : Value) (h : RnH) (w0 : World) (hv : SlT H v w0) (hl : H.length ≤ 1000) :
  Calls Tryz.prog 53 #[.agg #[.int .i64 most, .int .i64 next, v], rnV h] w0 (Ret fun r w => ∃ ao c, r = .agg #[.int .i64 most, .int .i64 next, .slice ao H.length c] ∧ St w0 [OwT 73 (putR H h) (.slice ao H.length c)] w) := by
 obtain ⟨ao, co, rfl, -⟩ := hv.shape
 obtain ⟨id1, k1, tag1, text1, ⟨x1, x2, x3⟩, ⟨y1, y2, y3⟩, ⟨z1, z2, z3⟩, p1, ⟨u1, u2, u3⟩⟩ := h
 show Calls Tryz.prog 53 #[.agg #[.int .i64 most, .int .i64 next, .slice ao H.length co], .agg #[.int .i64 id1, .int .i64 k1, .string tag1, .string text1, .slice x1 x2 x3, .slice y1 y2 y3, .slice z1 z2 z3, .int .i64 p1, .slice u1 u2 u3]] w0 _
 refine enter Tryz.func53 rfl Tryz.ntmps53 rfl (fun a hk => ?_);have hS := St.refl w0
 refine wpIn_seq ?_;refine wpIn_region_lit ?_
 refine st_box hk hS ?_;clear hk hS a;intro w b2 hS a hk
 refine st_box hk hS ?_;clear hk hS a;intro w b3 hS a hk
 refine st_alloc hk hS ?_;clear hk hS a;intro w b4 hS a hk
 (repeat' (first|((first|refine wx1 ?_|refine wx2 ?_ ?_<;>intro hp|refine s_end hk ?_)<;>(clear hk a;intro a hk))|((first|refine wx3 ?_;intro w b|refine wx4 ?_;intro w|refine wx5 ?_;intro w v);clear hk hS a;intro hS a hk)|refine wx0 ?_|fail))
 refine sg hk (g_bs0 RnH hS ?_ (hT := eT rfl) (hE := zT rfl));clear hk hS a;intro w v8 hS a hk
 obtain ⟨aov8, cv8, hshp, _⟩ := (OwT.rd (hS.rd (A := OwT 73 _ v8) atx)).shape;subst hshp
 (repeat' (first|((first|refine wx1 ?_|refine wx2 ?_ ?_<;>intro hp|refine s_end hk ?_)<;>(clear hk a;intro a hk))|((first|refine wx3 ?_;intro w b|refine wx4 ?_;intro w|refine wx5 ?_;intro w v);clear hk hS a;intro hS a hk)|refine wx0 ?_|fail))
 replace hk := Kn.kp [2, 3, 4, 5, 10, 11, 12] hk
 refine wp_for H.length (fun i y => [(5, .slice y.1 i y.2), (12, .int .i64 (i : Int))]) (fun i y => [OwT 73 (putR (H.take i) (id1, k1, tag1, text1, ⟨x1, x2, x3⟩, ⟨y1, y2, y3⟩, ⟨z1, z2, z3⟩, p1, ⟨u1, u2, u3⟩)) (.slice y.1 i y.2), pts b2 [.int .i64 most, .int .i64 next, .slice ao H.length co] 28, pts b3 [.int .i64 id1, .int .i64 k1, .string tag1, .string text1, .slice x1 x2 x3, .slice y1 y2 y3, .slice z1 z2 z3, .int .i64 p1, .slice u1 u2 u3] 73, pts b4 [.int .i64 0, .int .i64 0, .slice none 0 0] 28]) (fun _ _ => True) (aov8, cv8) hk skx hS.sb trivial ?_
 clear hk hS a
 rintro i ⟨ai, ci⟩ a w hi hk hS -
 simp only at hk hS
 have hpl : (putR (H.take i) (id1, k1, tag1, text1, ⟨x1, x2, x3⟩, ⟨y1, y2, y3⟩, ⟨z1, z2, z3⟩, p1, ⟨u1, u2, u3⟩)).length = i := by unfold putR;rw [List.length_map, List.length_take];omega
 by_cases hil : i < H.length
 ·obtain ⟨e, hx⟩ : ∃ x, H[i]? = some x := ⟨_, List.getElem?_eq_getElem hil⟩
  have hst : putR (H.take (i + 1)) (id1, k1, tag1, text1, ⟨x1, x2, x3⟩, ⟨y1, y2, y3⟩, ⟨z1, z2, z3⟩, p1, ⟨u1, u2, u3⟩) = putR (H.take i) (id1, k1, tag1, text1, ⟨x1, x2, x3⟩, ⟨y1, y2, y3⟩, ⟨z1, z2, z3⟩, p1, ⟨u1, u2, u3⟩) ++ [if e.1 = id1 then (id1, k1, tag1, text1, ⟨x1, x2, x3⟩, ⟨y1, y2, y3⟩, ⟨z1, z2, z3⟩, p1, ⟨u1, u2, u3⟩) else e] := by
   unfold putR;rw [take_snoc hx, List.map_append];rfl
  have hv1 := hS.rdT hv
  obtain ⟨id0, k0, tag0, text0, ⟨x10, x20, x30⟩, ⟨y10, y20, y30⟩, ⟨z10, z20, z30⟩, p0, ⟨u10, u20, u30⟩⟩ := e
  simp only at hst
  generalize putR (H.take i) (id1, k1, tag1, text1, ⟨x1, x2, x3⟩, ⟨y1, y2, y3⟩, ⟨z1, z2, z3⟩, p1, ⟨u1, u2, u3⟩) = Y at *
  generalize putR (H.take (i + 1)) (id1, k1, tag1, text1, ⟨x1, x2, x3⟩, ⟨y1, y2, y3⟩, ⟨z1, z2, z3⟩, p1, ⟨u1, u2, u3⟩) = Y2 at *
  subst hst
  by_cases he : id0 = id1
  ·rw [if_pos he]
   (repeat' (first|((first|refine wx1 ?_|refine wx2 ?_ ?_<;>intro hp|refine s_end hk ?_)<;>(clear hk a;intro a hk))|((first|refine wx3 ?_;intro w b|refine wx4 ?_;intro w|refine wx5 ?_;intro w v);clear hk hS a;intro hS a hk)|refine wx0 ?_|fail))
   refine sg hk (g_bsT (xs := [((id1, k1, tag1, text1, ⟨x1, x2, x3⟩, ⟨y1, y2, y3⟩, ⟨z1, z2, z3⟩, p1, ⟨u1, u2, u3⟩) : RnH)]) (m := 0) hk hS ?_ (hT := eT rfl) (hE := zT rfl) (hz := oT rfl));clear hk hS a;intro w v hS a hk;refine sg hk (g_appD hk hS ?_ (hT := eT rfl) (hTx := eT rfl) (hE := zT rfl) (hz := oT rfl) (hzs := rfl) (hby := bT rfl) (hbytes := (by simp only [List.length_cons, List.length_nil];omega)) (h63 := (by simp only [List.length_cons, List.length_nil, maxLen];omega)));clear hk hS a;intro w v hS a hk
   rename Value => vn
   obtain ⟨aovn, cvn, hshp, _⟩ := (OwT.rd (hS.rd (A := OwT 73 _ vn) atx)).shape;subst hshp
   have hl1 : (Y ++ [((id1, k1, tag1, text1, ⟨x1, x2, x3⟩, ⟨y1, y2, y3⟩, ⟨z1, z2, z3⟩, p1, ⟨u1, u2, u3⟩) : RnH)]).length = i + 1 := by rw [List.length_append, hpl];rfl
   rw [hl1] at hS hk
   (repeat' (first|((first|refine wx1 ?_|refine wx2 ?_ ?_<;>intro hp|refine s_end hk ?_)<;>(clear hk a;intro a hk))|((first|refine wx3 ?_;intro w b|refine wx4 ?_;intro w|refine wx5 ?_;intro w v);clear hk hS a;intro hS a hk)|refine wx0 ?_|fail))
   exact ⟨hil, (aovn, cvn), hk.sd, hS.sb, trivial⟩
  ·rw [if_neg he]
   (repeat' (first|((first|refine wx1 ?_|refine wx2 ?_ ?_<;>intro hp|refine s_end hk ?_)<;>(clear hk a;intro a hk))|((first|refine wx3 ?_;intro w b|refine wx4 ?_;intro w|refine wx5 ?_;intro w v);clear hk hS a;intro hS a hk)|refine wx0 ?_|fail))
   refine sg hk (g_bsT (xs := [((id0, k0, tag0, text0, ⟨x10, x20, x30⟩, ⟨y10, y20, y30⟩, ⟨z10, z20, z30⟩, p0, ⟨u10, u20, u30⟩) : RnH)]) (m := 0) hk hS ?_ (hT := eT rfl) (hE := zT rfl) (hz := oT rfl));clear hk hS a;intro w v hS a hk;refine sg hk (g_appD hk hS ?_ (hT := eT rfl) (hTx := eT rfl) (hE := zT rfl) (hz := oT rfl) (hzs := rfl) (hby := bT rfl) (hbytes := (by simp only [List.length_cons, List.length_nil];omega)) (h63 := (by simp only [List.length_cons, List.length_nil, maxLen];omega)));clear hk hS a;intro w v hS a hk
   rename Value => vn
   obtain ⟨aovn, cvn, hshp, _⟩ := (OwT.rd (hS.rd (A := OwT 73 _ vn) atx)).shape;subst hshp
   have hl1 : (Y ++ [((id0, k0, tag0, text0, ⟨x10, x20, x30⟩, ⟨y10, y20, y30⟩, ⟨z10, z20, z30⟩, p0, ⟨u10, u20, u30⟩) : RnH)]).length = i + 1 := by rw [List.length_append, hpl];rfl
   rw [hl1] at hS hk
   (repeat' (first|((first|refine wx1 ?_|refine wx2 ?_ ?_<;>intro hp|refine s_end hk ?_)<;>(clear hk a;intro a hk))|((first|refine wx3 ?_;intro w b|refine wx4 ?_;intro w|refine wx5 ?_;intro w v);clear hk hS a;intro hS a hk)|refine wx0 ?_|fail))
   exact ⟨hil, (aovn, cvn), hk.sd, hS.sb, trivial⟩
 ·have hii : i = H.length := by omega
  subst hii
  rw [List.take_length] at hS
  (repeat' (first|((first|refine wx1 ?_|refine wx2 ?_ ?_<;>intro hp|refine s_end hk ?_)<;>(clear hk a;intro a hk))|((first|refine wx3 ?_;intro w b|refine wx4 ?_;intro w|refine wx5 ?_;intro w v);clear hk hS a;intro hS a hk)|refine wx0 ?_|fail))
  exact done1R hk rfl (.str hS (hT := aT rfl) (hs := zT rfl)) (h := ⟨ai, ci, rfl, hS.sb⟩)
end Go.Proofs.YtgklceoodpocaaaGreatDoor
