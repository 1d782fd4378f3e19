/- Layer 1, and its reference: numbers that stay within their ends. Layer 5, plain: what is done with nodes. Layer 5, plain: no node stands below itself, and none is told twice. Texts are cut. Layer 12: places of numbers, each number once: in plain words. Lists of numbers are compared. What many statements begin with: texts are cut, lists are taken in part, lists of numbers are compared. Rising rows, plainly: how long a row may end at each place, the best place of each length, the row itself. slices.Reverse at lists of numbers, off the library's contract. -/
import Derived.Test.YtbpkddpkcnlmhaaGreatF06
import Derived.Test.YtbpkddpkcnlmhaaGreatF05
import Derived.Test.YtbpkddpkcnlmhaaGreatF07
import Derived.Test.YtbpkddpkcnlmhaaGreatF00
import Derived.Shelf.Slices.Cells
set_option linter.all false
namespace Go.Proofs.YtbpkddpkcnlmhaaGreat
open Go.RowKit
set_option maxRecDepth 100000
attribute [local irreducible] Go.Code.wpIn Go.wpListIn Go.Calls Gives Go.Exit.then Go.Exit.inBlock Done ObxE
def satF (x : Int) : Int := max (-2147483648) (min x 2147483647)
theorem satF_bd (x : Int) : -2147483648 ≤ satF x ∧ satF x ≤ 2147483647 := by unfold satF; omega
def addF (a b : Int) : Int := satF (satF a + satF b)
def subF (a b : Int) : Int := satF (satF a - satF b)
theorem sat_any (x : Int) (w0 : World) : Calls Tryz.prog 43 #[.int .i64 x] w0 (Ret fun v w => v = .int .i64 (satF x) ∧ St w0 [] w) := by
 refine enter Tryz.func43 rfl Tryz.ntmps43 rfl (fun a hk => ?_);have hS := St.refl w0
 (repeat (first | (refine sg hk ?_;(first | refine g_move hk ?_ | refine g_assign hk ?_ | refine g_field hk ?_ (fT rfl) | refine g_build hk ?_ (fsT rfl) (oT rfl) | refine g_pick_t hk ?_ | refine g_pick_f hk ?_ | refine g_add hk ?_ (hlo := by omega) (hhi := by omega) | refine g_sub hk ?_ (hlo := by omega) (hhi := by omega) | refine g_lss hk ?_ | refine g_leq hk ?_ | refine g_gtr hk ?_ | refine g_geq hk ?_ | refine g_eqi hk ?_ | refine g_nei hk ?_ | refine g_eqb hk ?_ Tryz.underlying4 | refine g_neb hk ?_ Tryz.underlying4 | refine g_not hk ?_ | refine g_min hk ?_ | refine g_max hk ?_ | refine g_ex0 hk ?_ | refine g_ex1 hk ?_ | refine g_extract hk ?_ | refine g_nilc hk ?_);clear hk a;intro a hk) | refine wpIn_seq ?_ | refine wpIn_block ?_ | refine wpIn_region_lit ?_ | refine q_then ?_ | refine q_thenE ?_ | refine q_thenR ?_ | refine q_inN ?_ | refine q_inR ?_ | refine q_inE ?_ | refine q_inO ?_ | refine wpIn_skip ?_ | refine wpIn_ret ?_ | refine wpIn_exit ?_ | (refine s_end hk ?_;clear hk a;intro a hk) | (refine s_skip hk ?_;clear hk a;intro a hk) | (refine s_skip0 hk ?_;clear hk a;intro a hk)))
 exact done1 hk (h := ⟨rfl, hS⟩)
theorem add_any (x y : Int) (w0 : World) : Calls Tryz.prog 57 #[.int .i64 x, .int .i64 y] w0 (Ret fun v w => v = .int .i64 (addF x y) ∧ St w0 [] w) := by
 have b1 := satF_bd x
 have b2 := satF_bd y
 refine enter Tryz.func57 rfl Tryz.ntmps57 rfl (fun a hk => ?_);have hS := St.refl w0
 (repeat (first | (refine sg hk ?_;(first | refine g_move hk ?_ | refine g_assign hk ?_ | refine g_field hk ?_ (fT rfl) | refine g_build hk ?_ (fsT rfl) (oT rfl) | refine g_pick_t hk ?_ | refine g_pick_f hk ?_ | refine g_add hk ?_ (hlo := by omega) (hhi := by omega) | refine g_sub hk ?_ (hlo := by omega) (hhi := by omega) | refine g_lss hk ?_ | refine g_leq hk ?_ | refine g_gtr hk ?_ | refine g_geq hk ?_ | refine g_eqi hk ?_ | refine g_nei hk ?_ | refine g_eqb hk ?_ Tryz.underlying4 | refine g_neb hk ?_ Tryz.underlying4 | refine g_not hk ?_ | refine g_min hk ?_ | refine g_max hk ?_ | refine g_ex0 hk ?_ | refine g_ex1 hk ?_ | refine g_extract hk ?_ | refine g_nilc hk ?_);clear hk a;intro a hk) | refine wpIn_seq ?_ | refine wpIn_block ?_ | refine wpIn_region_lit ?_ | refine q_then ?_ | refine q_thenE ?_ | refine q_thenR ?_ | refine q_inN ?_ | refine q_inR ?_ | refine q_inE ?_ | refine q_inO ?_ | refine wpIn_skip ?_ | refine wpIn_ret ?_ | refine wpIn_exit ?_ | (refine s_end hk ?_;clear hk a;intro a hk) | (refine s_skip hk ?_;clear hk a;intro a hk) | (refine s_skip0 hk ?_;clear hk a;intro a hk)))
 refine sg hk (g_callO hk (hf := by kernel_rfl) (hc := sat_any _ _) (h := ?_));clear hk a;rintro _ w ⟨rfl, hS1⟩ a hk;replace hS := hS.call0 hS1;clear hS1
 (repeat (first | (refine sg hk ?_;(first | refine g_move hk ?_ | refine g_assign hk ?_ | refine g_field hk ?_ (fT rfl) | refine g_build hk ?_ (fsT rfl) (oT rfl) | refine g_pick_t hk ?_ | refine g_pick_f hk ?_ | refine g_add hk ?_ (hlo := by omega) (hhi := by omega) | refine g_sub hk ?_ (hlo := by omega) (hhi := by omega) | refine g_lss hk ?_ | refine g_leq hk ?_ | refine g_gtr hk ?_ | refine g_geq hk ?_ | refine g_eqi hk ?_ | refine g_nei hk ?_ | refine g_eqb hk ?_ Tryz.underlying4 | refine g_neb hk ?_ Tryz.underlying4 | refine g_not hk ?_ | refine g_min hk ?_ | refine g_max hk ?_ | refine g_ex0 hk ?_ | refine g_ex1 hk ?_ | refine g_extract hk ?_ | refine g_nilc hk ?_);clear hk a;intro a hk) | refine wpIn_seq ?_ | refine wpIn_block ?_ | refine wpIn_region_lit ?_ | refine q_then ?_ | refine q_thenE ?_ | refine q_thenR ?_ | refine q_inN ?_ | refine q_inR ?_ | refine q_inE ?_ | refine q_inO ?_ | refine wpIn_skip ?_ | refine wpIn_ret ?_ | refine wpIn_exit ?_ | (refine s_end hk ?_;clear hk a;intro a hk) | (refine s_skip hk ?_;clear hk a;intro a hk) | (refine s_skip0 hk ?_;clear hk a;intro a hk)))
 refine sg hk (g_callO hk (hf := by kernel_rfl) (hc := sat_any _ _) (h := ?_));clear hk a;rintro _ w ⟨rfl, hS1⟩ a hk;replace hS := hS.call0 hS1;clear hS1
 (repeat (first | (refine sg hk ?_;(first | refine g_move hk ?_ | refine g_assign hk ?_ | refine g_field hk ?_ (fT rfl) | refine g_build hk ?_ (fsT rfl) (oT rfl) | refine g_pick_t hk ?_ | refine g_pick_f hk ?_ | refine g_add hk ?_ (hlo := by omega) (hhi := by omega) | refine g_sub hk ?_ (hlo := by omega) (hhi := by omega) | refine g_lss hk ?_ | refine g_leq hk ?_ | refine g_gtr hk ?_ | refine g_geq hk ?_ | refine g_eqi hk ?_ | refine g_nei hk ?_ | refine g_eqb hk ?_ Tryz.underlying4 | refine g_neb hk ?_ Tryz.underlying4 | refine g_not hk ?_ | refine g_min hk ?_ | refine g_max hk ?_ | refine g_ex0 hk ?_ | refine g_ex1 hk ?_ | refine g_extract hk ?_ | refine g_nilc hk ?_);clear hk a;intro a hk) | refine wpIn_seq ?_ | refine wpIn_block ?_ | refine wpIn_region_lit ?_ | refine q_then ?_ | refine q_thenE ?_ | refine q_thenR ?_ | refine q_inN ?_ | refine q_inR ?_ | refine q_inE ?_ | refine q_inO ?_ | refine wpIn_skip ?_ | refine wpIn_ret ?_ | refine wpIn_exit ?_ | (refine s_end hk ?_;clear hk a;intro a hk) | (refine s_skip hk ?_;clear hk a;intro a hk) | (refine s_skip0 hk ?_;clear hk a;intro a hk)))
 refine sg hk (g_callO hk (hf := by kernel_rfl) (hc := sat_any _ _) (h := ?_));clear hk a;rintro _ w ⟨rfl, hS1⟩ a hk;replace hS := hS.call0 hS1;clear hS1
 (repeat (first | (refine sg hk ?_;(first | refine g_move hk ?_ | refine g_assign hk ?_ | refine g_field hk ?_ (fT rfl) | refine g_build hk ?_ (fsT rfl) (oT rfl) | refine g_pick_t hk ?_ | refine g_pick_f hk ?_ | refine g_add hk ?_ (hlo := by omega) (hhi := by omega) | refine g_sub hk ?_ (hlo := by omega) (hhi := by omega) | refine g_lss hk ?_ | refine g_leq hk ?_ | refine g_gtr hk ?_ | refine g_geq hk ?_ | refine g_eqi hk ?_ | refine g_nei hk ?_ | refine g_eqb hk ?_ Tryz.underlying4 | refine g_neb hk ?_ Tryz.underlying4 | refine g_not hk ?_ | refine g_min hk ?_ | refine g_max hk ?_ | refine g_ex0 hk ?_ | refine g_ex1 hk ?_ | refine g_extract hk ?_ | refine g_nilc hk ?_);clear hk a;intro a hk) | refine wpIn_seq ?_ | refine wpIn_block ?_ | refine wpIn_region_lit ?_ | refine q_then ?_ | refine q_thenE ?_ | refine q_thenR ?_ | refine q_inN ?_ | refine q_inR ?_ | refine q_inE ?_ | refine q_inO ?_ | refine wpIn_skip ?_ | refine wpIn_ret ?_ | refine wpIn_exit ?_ | (refine s_end hk ?_;clear hk a;intro a hk) | (refine s_skip hk ?_;clear hk a;intro a hk) | (refine s_skip0 hk ?_;clear hk a;intro a hk)))
 exact done1 hk (h := ⟨rfl, hS⟩)
theorem sub_any (x y : Int) (w0 : World) : Calls Tryz.prog 56 #[.int .i64 x, .int .i64 y] w0 (Ret fun v w => v = .int .i64 (subF x y) ∧ St w0 [] w) := by
 have b1 := satF_bd x
 have b2 := satF_bd y
 refine enter Tryz.func56 rfl Tryz.ntmps56 rfl (fun a hk => ?_);have hS := St.refl w0
 (repeat (first | (refine sg hk ?_;(first | refine g_move hk ?_ | refine g_assign hk ?_ | refine g_field hk ?_ (fT rfl) | refine g_build hk ?_ (fsT rfl) (oT rfl) | refine g_pick_t hk ?_ | refine g_pick_f hk ?_ | refine g_add hk ?_ (hlo := by omega) (hhi := by omega) | refine g_sub hk ?_ (hlo := by omega) (hhi := by omega) | refine g_lss hk ?_ | refine g_leq hk ?_ | refine g_gtr hk ?_ | refine g_geq hk ?_ | refine g_eqi hk ?_ | refine g_nei hk ?_ | refine g_eqb hk ?_ Tryz.underlying4 | refine g_neb hk ?_ Tryz.underlying4 | refine g_not hk ?_ | refine g_min hk ?_ | refine g_max hk ?_ | refine g_ex0 hk ?_ | refine g_ex1 hk ?_ | refine g_extract hk ?_ | refine g_nilc hk ?_);clear hk a;intro a hk) | refine wpIn_seq ?_ | refine wpIn_block ?_ | refine wpIn_region_lit ?_ | refine q_then ?_ | refine q_thenE ?_ | refine q_thenR ?_ | refine q_inN ?_ | refine q_inR ?_ | refine q_inE ?_ | refine q_inO ?_ | refine wpIn_skip ?_ | refine wpIn_ret ?_ | refine wpIn_exit ?_ | (refine s_end hk ?_;clear hk a;intro a hk) | (refine s_skip hk ?_;clear hk a;intro a hk) | (refine s_skip0 hk ?_;clear hk a;intro a hk)))
 refine sg hk (g_callO hk (hf := by kernel_rfl) (hc := sat_any _ _) (h := ?_));clear hk a;rintro _ w ⟨rfl, hS1⟩ a hk;replace hS := hS.call0 hS1;clear hS1
 (repeat (first | (refine sg hk ?_;(first | refine g_move hk ?_ | refine g_assign hk ?_ | refine g_field hk ?_ (fT rfl) | refine g_build hk ?_ (fsT rfl) (oT rfl) | refine g_pick_t hk ?_ | refine g_pick_f hk ?_ | refine g_add hk ?_ (hlo := by omega) (hhi := by omega) | refine g_sub hk ?_ (hlo := by omega) (hhi := by omega) | refine g_lss hk ?_ | refine g_leq hk ?_ | refine g_gtr hk ?_ | refine g_geq hk ?_ | refine g_eqi hk ?_ | refine g_nei hk ?_ | refine g_eqb hk ?_ Tryz.underlying4 | refine g_neb hk ?_ Tryz.underlying4 | refine g_not hk ?_ | refine g_min hk ?_ | refine g_max hk ?_ | refine g_ex0 hk ?_ | refine g_ex1 hk ?_ | refine g_extract hk ?_ | refine g_nilc hk ?_);clear hk a;intro a hk) | refine wpIn_seq ?_ | refine wpIn_block ?_ | refine wpIn_region_lit ?_ | refine q_then ?_ | refine q_thenE ?_ | refine q_thenR ?_ | refine q_inN ?_ | refine q_inR ?_ | refine q_inE ?_ | refine q_inO ?_ | refine wpIn_skip ?_ | refine wpIn_ret ?_ | refine wpIn_exit ?_ | (refine s_end hk ?_;clear hk a;intro a hk) | (refine s_skip hk ?_;clear hk a;intro a hk) | (refine s_skip0 hk ?_;clear hk a;intro a hk)))
 refine sg hk (g_callO hk (hf := by kernel_rfl) (hc := sat_any _ _) (h := ?_));clear hk a;rintro _ w ⟨rfl, hS1⟩ a hk;replace hS := hS.call0 hS1;clear hS1
 (repeat (first | (refine sg hk ?_;(first | refine g_move hk ?_ | refine g_assign hk ?_ | refine g_field hk ?_ (fT rfl) | refine g_build hk ?_ (fsT rfl) (oT rfl) | refine g_pick_t hk ?_ | refine g_pick_f hk ?_ | refine g_add hk ?_ (hlo := by omega) (hhi := by omega) | refine g_sub hk ?_ (hlo := by omega) (hhi := by omega) | refine g_lss hk ?_ | refine g_leq hk ?_ | refine g_gtr hk ?_ | refine g_geq hk ?_ | refine g_eqi hk ?_ | refine g_nei hk ?_ | refine g_eqb hk ?_ Tryz.underlying4 | refine g_neb hk ?_ Tryz.underlying4 | refine g_not hk ?_ | refine g_min hk ?_ | refine g_max hk ?_ | refine g_ex0 hk ?_ | refine g_ex1 hk ?_ | refine g_extract hk ?_ | refine g_nilc hk ?_);clear hk a;intro a hk) | refine wpIn_seq ?_ | refine wpIn_block ?_ | refine wpIn_region_lit ?_ | refine q_then ?_ | refine q_thenE ?_ | refine q_thenR ?_ | refine q_inN ?_ | refine q_inR ?_ | refine q_inE ?_ | refine q_inO ?_ | refine wpIn_skip ?_ | refine wpIn_ret ?_ | refine wpIn_exit ?_ | (refine s_end hk ?_;clear hk a;intro a hk) | (refine s_skip hk ?_;clear hk a;intro a hk) | (refine s_skip0 hk ?_;clear hk a;intro a hk)))
 refine sg hk (g_callO hk (hf := by kernel_rfl) (hc := sat_any _ _) (h := ?_));clear hk a;rintro _ w ⟨rfl, hS1⟩ a hk;replace hS := hS.call0 hS1;clear hS1
 (repeat (first | (refine sg hk ?_;(first | refine g_move hk ?_ | refine g_assign hk ?_ | refine g_field hk ?_ (fT rfl) | refine g_build hk ?_ (fsT rfl) (oT rfl) | refine g_pick_t hk ?_ | refine g_pick_f hk ?_ | refine g_add hk ?_ (hlo := by omega) (hhi := by omega) | refine g_sub hk ?_ (hlo := by omega) (hhi := by omega) | refine g_lss hk ?_ | refine g_leq hk ?_ | refine g_gtr hk ?_ | refine g_geq hk ?_ | refine g_eqi hk ?_ | refine g_nei hk ?_ | refine g_eqb hk ?_ Tryz.underlying4 | refine g_neb hk ?_ Tryz.underlying4 | refine g_not hk ?_ | refine g_min hk ?_ | refine g_max hk ?_ | refine g_ex0 hk ?_ | refine g_ex1 hk ?_ | refine g_extract hk ?_ | refine g_nilc hk ?_);clear hk a;intro a hk) | refine wpIn_seq ?_ | refine wpIn_block ?_ | refine wpIn_region_lit ?_ | refine q_then ?_ | refine q_thenE ?_ | refine q_thenR ?_ | refine q_inN ?_ | refine q_inR ?_ | refine q_inE ?_ | refine q_inO ?_ | refine wpIn_skip ?_ | refine wpIn_ret ?_ | refine wpIn_exit ?_ | (refine s_end hk ?_;clear hk a;intro a hk) | (refine s_skip hk ?_;clear hk a;intro a hk) | (refine s_skip0 hk ?_;clear hk a;intro a hk)))
 exact done1 hk (h := ⟨rfl, hS⟩)
end Go.Proofs.YtbpkddpkcnlmhaaGreat
namespace Go.Proofs.YtbpkddpkcnlmhaaGreat
structure DomP where
 most : Int
 next : Int
 l : List NodeP
abbrev DomP.f (D : DomP) : Nds := fnP D.l
structure WfD (D : DomP) : Prop where
 uni : (D.l.map (·.id)).Nodup
 wf : Wf D.next D.f
 most : 1 ≤ D.most ∧ D.most ≤ 65536
structure NdB (K : Nat) (n : NodeP) : Prop where
 cls : n.cls.length ≤ K
 att : n.att.length ≤ K
 sty : n.sty.length ≤ K
 kids : n.kids.length ≤ K
 ra : Rises nmS n.att
 rs : Rises nmI n.sty
structure Bnd (K : Nat) (D : DomP) : Prop where
 len : D.l.length ≤ K + 1
 nx : D.next ≤ K + 1
 nd : ∀ n ∈ D.l, NdB K n
theorem NdB.up {K K' : Nat} {n : NodeP} (h : NdB K n) (hk : K ≤ K') : NdB K' n := ⟨by have := h.cls; omega, by have := h.att; omega, by have := h.sty; omega, by have := h.kids; omega, h.ra, h.rs⟩
theorem Bnd.up {K K' : Nat} {D : DomP} (h : Bnd K D) (hk : K ≤ K') : Bnd K' D := ⟨by have := h.len; omega, by have := h.nx; omega, fun n hn => (h.nd n hn).up hk⟩
theorem Bnd.get {K : Nat} {D : DomP} (h : Bnd K D) {id : Int} {n : NodeP} (hn : fnP D.l id = some n) : NdB K n := h.nd n (fnd_mem hn)
def rootP : NodeP := ⟨0, 2, ⟨#[114, 111, 111, 116]⟩, ⟨#[]⟩, [], [], [], -1, []⟩
def newP (most : Int) : DomP := ⟨max 1 (min most 65536), 1, [rootP]⟩
theorem root_f (i : Int) : fnP [rootP] i = if i = 0 then some rootP else none := by
 unfold fnP
 by_cases h : i = 0
 ·subst h;rfl
 ·rw [if_neg (fun e => h e.symm), if_neg h];rfl
theorem newP_wf (most : Int) : WfD (newP most) := by
 have hf : ∀ {i m}, fnP [rootP] i = some m → i = 0 ∧ m = rootP := fun {i m} h => by
  rw [root_f] at h
  split at h
  ·cases h;exact ⟨by assumption, rfl⟩
  ·cases h
 refine ⟨by simp [newP], ⟨by simp [newP], fun i m hm => ?_, ⟨rootP, by simp [DomP.f, newP, root_f], rfl, rfl⟩, fun i m hm => ?_, fun i m hm k hk => ?_, fun i m hm => ?_, fun i m hm => ?_, fun i => ?_, fun i => ?_⟩, by simp only [newP];omega⟩
 ·obtain ⟨rfl, rfl⟩ := hf hm;exact ⟨rfl, Int.le_refl 0, show (0 : Int) < 1 by decide⟩
 ·obtain ⟨rfl, rfl⟩ := hf hm;exact .inr rfl
 ·obtain ⟨rfl, rfl⟩ := hf hm;cases hk
 ·obtain ⟨rfl, rfl⟩ := hf hm;exact .inl rfl
 ·obtain ⟨rfl, rfl⟩ := hf hm;exact List.nodup_nil
 ·exact .intro i fun y ⟨m, hm, hy⟩ => by obtain ⟨rfl, rfl⟩ := hf hm;cases hy
 ·refine .intro i fun y ⟨m, hm, hy⟩ => ?_
  obtain ⟨rfl, rfl⟩ := hf hm
  subst hy
  exact .intro _ fun z ⟨m, hm, hz⟩ => by
   obtain ⟨h, -⟩ := hf hm
   cases h
theorem newP_bnd (most : Int) (K : Nat) : Bnd K (newP most) := by
 refine ⟨by simp [newP], by simp [newP];omega, fun n hn => ?_⟩
 simp only [newP, List.mem_singleton] at hn
 subst hn
 exact ⟨Nat.zero_le _, Nat.zero_le _, Nat.zero_le _, Nat.zero_le _, List.Pairwise.nil, List.Pairwise.nil⟩
section
open Classical
noncomputable def addP (D : DomP) (kind : Int) (tag text : ByteArray) : DomP × Int × Int :=
 if (D.l.length : Int) > D.most then (D, 0, 8) else ({ D with next := D.next + 1, l := D.l ++ [⟨D.next, kind, tag, text, [], [], [], -1, []⟩] }, D.next, 0)
noncomputable def elemP (D : DomP) (tag : ByteArray) : DomP × Int × Int := if nameS tag = true then addP D 2 tag ⟨#[]⟩ else (D, 0, 2)
noncomputable def textP (D : DomP) (s : ByteArray) : DomP × Int × Int := addP D 1 ⟨#[]⟩ s
noncomputable def insP (D : DomP) (parent at_ id : Int) : DomP × Int :=
 match D.f parent, D.f id with
 | some p, some n =>
  if p.kind ≠ 2 then (D, 14)
  else if id = 0 ∨ n.par ≠ -1 ∨ Win D.f id parent ∨ at_ < 0 ∨ at_ > p.kids.length then (D, 1)
  else ({ D with l := putP (putP D.l { p with kids := insF p.kids at_.toNat id }) { n with par := parent } }, 0)
 | _, _ => (D, 11)
def woP (l : List Int) (id : Int) : List Int := l.filter (fun x => decide (x ≠ id))
noncomputable def movDP (D : DomP) (id at_ : Int) : DomP × Int :=
 match D.f id with
 | none => (D, 11)
 | some n => match D.f n.par with
  | none => (D, 1)
  | some p => if at_ < 0 ∨ at_ ≥ p.kids.length then (D, 1) else ({ D with l := putP D.l { p with kids := insF (woP p.kids id) at_.toNat id } }, 0)
def leaP (l : List NodeP) (n : NodeP) : List NodeP :=
 match fnP l n.par with
 | none => l
 | some p => putP l { p with kids := woP p.kids n.id }
noncomputable def remL (l : List NodeP) (n : NodeP) : List NodeP := (leaP l n).filter (fun x => decide (x.id ∉ preN (fnP (leaP l n)) n.id))
noncomputable def remP (D : DomP) (id : Int) : DomP × Int :=
 match D.f id with
 | none => (D, 11)
 | some n => if id = 0 then (D, 1) else ({ D with l := remL D.l n }, 0)
def kndC (kind : Int) : Int := if kind = 1 then 1 else 2
def ownP (D : DomP) (id kind : Int) (name : ByteArray) : Int :=
 match D.f id with
 | none => 11
 | some n => if id = 0 then 1 else if n.kind ≠ kind then 14 else if kind = 2 ∧ nameS name = false then 2 else 0
noncomputable def chgP (kind : Int) (n : NodeP) (name v : ByteArray) (num : Int) : Option NodeP :=
 if kind = 0 then some { n with tag := name }
 else if kind = 1 then some { n with text := v }
 else if kind = 2 then some { n with att := putF nmS n.att (name, v) }
 else if kind = 3 then if (lastF nmS n.att name).isSome then some { n with att := n.att.filter (fun x => !decide (x.1 = name)) } else none
 else if kind = 4 then some { n with sty := putF nmI n.sty (name, satF num) }
 else if kind = 5 then if (lastF nmI n.sty name).isSome then some { n with sty := n.sty.filter (fun x => !decide (x.1 = name)) } else none
 else if kind = 6 then if name ∈ n.cls then none else some { n with cls := n.cls ++ [name] }
 else if name ∈ n.cls then some { n with cls := n.cls.filter (fun x => !decide (x = name)) } else none
noncomputable def setP (D : DomP) (kind id : Int) (name v : ByteArray) (num : Int) : DomP × Int :=
 match D.f id with
 | none => (D, 11)
 | some n => if ownP D id (kndC kind) name ≠ 0 then (D, ownP D id (kndC kind) name) else
  match chgP kind n name v num with
  | none => (D, 1)
  | some n' => ({ D with l := putP D.l n' }, 0)
end
theorem wo_mem {l : List Int} {id x : Int} : x ∈ woP l id ↔ x ∈ l ∧ x ≠ id := by simp [woP]
theorem wo_nodup {l : List Int} (h : l.Nodup) (id : Int) : (woP l id).Nodup := h.filter _
theorem ins_perm {α : Type} (l : List α) (i : Nat) (e : α) : List.Perm (insF l i e) (e :: l) := by
 unfold insF
 have : List.Perm (l.take i ++ e :: l.drop i) (e :: (l.take i ++ l.drop i)) := List.perm_middle
 rwa [List.take_append_drop] at this
theorem insLen5 {α : Type} (l : List α) (i : Nat) (e : α) : (insF l i e).length = l.length + 1 := (ins_perm l i e).length_eq
theorem woP_len {l : List Int} {id : Int} (h : l.Nodup) (hm : id ∈ l) : (woP l id).length + 1 = l.length := by
 induction l with
 | nil => cases hm
 | cons x l ih =>
  rw [List.nodup_cons] at h
  unfold woP at *
  by_cases hx : x = id
  ·subst hx
   have : l.filter (fun y => decide (y ≠ x)) = l := List.filter_eq_self.2 fun y hy => decide_eq_true fun e => h.1 (by rw [← e];exact hy)
   rw [List.filter_cons, if_neg (by simp), this]
   rfl
  ·rw [List.filter_cons, if_pos (by simpa using hx), List.length_cons, List.length_cons, ih h.2 ((List.mem_cons.1 hm).resolve_left (fun e => hx e.symm))]
theorem addP_wf {D : DomP} (h : WfD D) {kind : Int} (hk : kind = 1 ∨ kind = 2) (tag text : ByteArray) : WfD (addP D kind tag text).1 := by
 unfold addP
 split
 ·exact h
 ·refine ⟨?_, h.wf.add (n := ⟨D.next, kind, tag, text, [], [], [], -1, []⟩) rfl rfl rfl hk fun i => ?_, h.most⟩
  ·simp only [List.map_append, List.map_cons, List.map_nil]
   rw [List.nodup_append]
   refine ⟨h.uni, by simp, fun a ha b hb e => ?_⟩
   rw [List.mem_singleton] at hb
   obtain ⟨n, hn, rfl⟩ := List.mem_map.1 ha
   have := h.wf.idn _ _ (fnd_of_mem h.uni hn)
   omega
  ·show fnP (D.l ++ [_]) i = _
   rw [fnd_app]
   by_cases hi : i = D.next
   ·subst hi
    rw [show fnP D.l D.next = none from h.wf.big (Int.le_refl _)]
    simp
   ·rw [if_neg hi]
    cases hf : D.f i with
    | none => rw [show fnP D.l i = none from hf];simp only;rw [if_neg (fun e => hi e.symm)]
    | some m => rw [show fnP D.l i = some m from hf]
theorem addP_bnd {K : Nat} {D : DomP} (h : Bnd K D) (kind : Int) (tag text : ByteArray) : Bnd (K + 1) (addP D kind tag text).1 := by
 unfold addP
 split
 ·exact h.up (by omega)
 ·refine ⟨by have := h.len;simp only [List.length_append, List.length_cons, List.length_nil];omega, by have := h.nx;simp only;omega, fun n hn => ?_⟩
  rcases List.mem_append.1 hn with hn | hn
  ·exact (h.nd n hn).up (by omega)
  ·rw [List.mem_singleton] at hn
   subst hn
   exact ⟨Nat.zero_le _, Nat.zero_le _, Nat.zero_le _, Nat.zero_le _, List.Pairwise.nil, List.Pairwise.nil⟩
theorem elemP_wf {D : DomP} (h : WfD D) (tag : ByteArray) : WfD (elemP D tag).1 := by
 unfold elemP;split
 ·exact addP_wf h (.inr rfl) _ _
 ·exact h
theorem elemP_bnd {K : Nat} {D : DomP} (h : Bnd K D) (tag : ByteArray) : Bnd (K + 1) (elemP D tag).1 := by
 unfold elemP;split
 ·exact addP_bnd h _ _ _
 ·exact h.up (by omega)
theorem put_bnd {K : Nat} {D : DomP} (h : Bnd K D) {n : NodeP} (hn : NdB K n) : Bnd K { D with l := putP D.l n } :=
 ⟨by have := h.len;simp only [put_len0];exact this, h.nx, fun x hx => (put_mem0 hx).elim (fun e => e ▸ hn) (h.nd x)⟩
theorem insP_wf {D : DomP} (h : WfD D) (parent at_ id : Int) : WfD (insP D parent at_ id).1 := by
 unfold insP
 split
 ·rename_i p n hp hn
  split
  ·exact h
  ·split
   ·exact h
   ·rename_i hc
    simp only [not_or] at hc
    obtain ⟨h0, hl, hw, -, -⟩ := hc
    have ep : p.id = parent := fnd_id hp
    have en : n.id = id := fnd_id hn
    have hne : parent ≠ id := fun e => hw (by rw [e];exact .refl hn)
    have hmem : id ∉ p.kids := fun hm => by
     obtain ⟨c, hc, hcp⟩ := h.wf.down parent p hp id hm
     rw [hn] at hc;cases hc
     have := h.wf.idn parent p hp
     omega
    refine ⟨?_, h.wf.ins hp hn h0 (by omega) hw (ks := insF p.kids at_.toNat id) (fun x => ?_) ?_ (fun i => ?_), h.most⟩
    ·rw [put_ids, put_ids];exact h.uni
    ·rw [(ins_perm _ _ _).mem_iff, List.mem_cons]
    ·rw [(ins_perm _ _ _).nodup_iff, List.nodup_cons];exact ⟨hmem, h.wf.nod parent p hp⟩
    ·have h1 : ∀ i, fnP (putP D.l { p with kids := insF p.kids at_.toNat id }) i = if i = parent then some { p with kids := insF p.kids at_.toNat id } else D.f i := fun i => by
      rw [fnd_put_some (n := { p with kids := insF p.kids at_.toNat id }) (m := p) (by simp only [ep];exact hp)]
      simp only [ep]
     show fnP (putP (putP D.l _) _) i = _
     rw [fnd_put_some (n := { n with par := parent }) (m := n) (by rw [h1];simp only [en];rw [if_neg (Ne.symm hne)];exact hn), h1]
     simp only [en]
 ·exact h
theorem insP_bnd {K : Nat} {D : DomP} (h : Bnd K D) (parent at_ id : Int) : Bnd (K + 1) (insP D parent at_ id).1 := by
 unfold insP
 split
 ·rename_i p n hp hn
  split
  ·exact h.up (by omega)
  ·split
   ·exact h.up (by omega)
   ·have b1 := h.get hp
    have b2 := h.get hn
    have hk := insLen5 p.kids at_.toNat id
    exact put_bnd (D := { D with l := putP D.l { p with kids := insF p.kids at_.toNat id } }) (put_bnd (h.up (Nat.le_succ K)) (n := { p with kids := insF p.kids at_.toNat id }) ⟨by have := b1.cls;simp only;omega, by have := b1.att;simp only;omega, by have := b1.sty;simp only;omega, by have := b1.kids;simp only;omega, b1.ra, b1.rs⟩)
     ⟨by have := b2.cls;simp only;omega, by have := b2.att;simp only;omega, by have := b2.sty;simp only;omega, by have := b2.kids;simp only;omega, b2.ra, b2.rs⟩
 ·exact h.up (by omega)
theorem movP_wf {D : DomP} (h : WfD D) (id at_ : Int) : WfD (movDP D id at_).1 := by
 unfold movDP
 split
 ·exact h
 ·rename_i n hn
  split
  ·exact h
  ·rename_i p hp
   split
   ·exact h
   ·have ep : p.id = n.par := fnd_id hp
    have hm : id ∈ p.kids := by
     rcases h.wf.par hn with ⟨-, k⟩ | ⟨-, q, k, k2⟩
     ·rw [k] at hp;cases hp
     ·rw [k] at hp;cases hp;exact k2
    refine ⟨?_, h.wf.kids hp (ks := insF (woP p.kids id) at_.toNat id) (fun x => ?_) ?_ (fun i => ?_), h.most⟩
    ·rw [put_ids];exact h.uni
    ·rw [(ins_perm _ _ _).mem_iff, List.mem_cons, wo_mem]
     by_cases e : x = id
     ·subst e;exact ⟨fun _ => hm, fun _ => .inl rfl⟩
     ·exact ⟨fun k => (k.resolve_left e).1, fun k => .inr ⟨k, e⟩⟩
    ·rw [(ins_perm _ _ _).nodup_iff, List.nodup_cons]
     exact ⟨fun k => (wo_mem.1 k).2 rfl, wo_nodup (h.wf.nod _ p hp) id⟩
    ·show fnP (putP D.l _) i = _
     rw [fnd_put_some (n := { p with kids := insF (woP p.kids id) at_.toNat id }) (m := p) (by simp only [ep];exact hp)]
     simp only [ep]
theorem movP_bnd {K : Nat} {D : DomP} (h : Bnd K D) (id at_ : Int) : Bnd (K + 1) (movDP D id at_).1 := by
 unfold movDP
 split
 ·exact h.up (by omega)
 ·split
  ·exact h.up (by omega)
  ·rename_i p hp
   split
   ·exact h.up (by omega)
   ·have b1 := h.get hp
    have hk := insLen5 (woP p.kids id) at_.toNat id
    have hk2 : (woP p.kids id).length ≤ p.kids.length := List.length_filter_le _ _
    exact put_bnd (h.up (Nat.le_succ K)) ⟨by have := b1.cls;simp only;omega, by have := b1.att;simp only;omega, by have := b1.sty;simp only;omega, by have := b1.kids;simp only;omega, b1.ra, b1.rs⟩
theorem chg_shN {kind num : Int} {n n' : NodeP} {name v : ByteArray} (h : chgP kind n name v num = some n') : shN n' = shN n := by
 unfold chgP at h
 repeat' split at h
 all_goals first | (cases h;rfl) | cases h
theorem chg_bnd {K : Nat} {kind num : Int} {n n' : NodeP} {name v : ByteArray} (b : NdB K n) (h : chgP kind n name v num = some n') : NdB (K + 1) n' := by
 have p1 := put_len nmS n.att (name, v)
 have p2 := put_len nmI n.sty (name, satF num)
 have q1 := List.length_filter_le (fun x => !decide (x.1 = name)) n.att
 have q2 := List.length_filter_le (fun x => !decide (x.1 = name)) n.sty
 have q3 := List.length_filter_le (fun x => !decide (x = name)) n.cls
 obtain ⟨b1, b2, b3, b4, b5, b6⟩ := b
 unfold chgP at h
 repeat' split at h
 all_goals first
  | cases h;done
  | (cases h;exact ⟨by simp only [List.length_append, List.length_cons, List.length_nil];omega, by simp only;omega, by simp only;omega, by simp only;omega, by first | exact b5 | exact put_rises nmS b5 | exact filter_rises nmS b5 _, by first | exact b6 | exact put_rises nmI b6 | exact filter_rises nmI b6 _⟩)
  | (cases h;exact ⟨by simp only;omega, by simp only;omega, by simp only;omega, by simp only;omega, by first | exact b5 | exact put_rises nmS b5 | exact filter_rises nmS b5 _, by first | exact b6 | exact put_rises nmI b6 | exact filter_rises nmI b6 _⟩)
theorem shN_put {D : DomP} {n n' : NodeP} {id : Int} (hn : D.f id = some n) (hs : shN n' = shN n) (i : Int) : (fnP (putP D.l n') i).map shN = (D.f i).map shN := by
 have e : n'.id = id := by have := congrArg (·.1) hs;simp only at this;rw [this];exact fnd_id hn
 rw [fnd_put_some (n := n') (m := n) (by rw [e];exact hn), e]
 by_cases hi : i = id
 ·subst hi;rw [if_pos rfl, hn];exact congrArg some hs
 ·rw [if_neg hi]
theorem setP_wf {D : DomP} (h : WfD D) (kind id : Int) (name v : ByteArray) (num : Int) : WfD (setP D kind id name v num).1 := by
 unfold setP
 split
 ·exact h
 ·rename_i n hn
  split
  ·exact h
  ·split
   ·exact h
   ·rename_i n' hc
    exact ⟨by rw [put_ids];exact h.uni, h.wf.same (shN_put hn (chg_shN hc)), h.most⟩
theorem setP_bnd {K : Nat} {D : DomP} (h : Bnd K D) (kind id : Int) (name v : ByteArray) (num : Int) : Bnd (K + 1) (setP D kind id name v num).1 := by
 unfold setP
 split
 ·exact h.up (by omega)
 ·rename_i n hn
  split
  ·exact h.up (by omega)
  ·split
   ·exact h.up (by omega)
   ·rename_i n' hc
    exact put_bnd (h.up (Nat.le_succ K)) (chg_bnd (h.get hn) hc)
end Go.Proofs.YtbpkddpkcnlmhaaGreat
namespace Go.Proofs.YtbpkddpkcnlmhaaGreat
end Go.Proofs.YtbpkddpkcnlmhaaGreat
namespace Go.Proofs.YtbpkddpkcnlmhaaGreat
open Go.RowKit
set_option maxRecDepth 100000
attribute [local irreducible] Go.Code.wpIn Go.wpListIn Go.Calls Gives Go.Exit.then Go.Exit.inBlock Done ObxE
def cutF (s : ByteArray) (n : Nat) : ByteArray := if n < s.size then s.extract 0 n else s
end Go.Proofs.YtbpkddpkcnlmhaaGreat
namespace Go.Proofs.YtbpkddpkcnlmhaaGreat
def posI (l : List Int) (id : Int) : Nat := if id ∈ l then l.idxOf id + 1 else 0
def idxI (l : List Int) (id : Int) : Int := if id ∈ l then (l.idxOf id : Int) else -1
theorem idx_pos (l : List Int) (id : Int) : idxI l id = (posI l id : Int) - 1 := by
 unfold idxI posI
 split <;> simp
theorem pos_le (l : List Int) (id : Int) : posI l id ≤ l.length := by
 unfold posI
 split
 ·have := List.idxOf_lt_length_iff.2 ‹id ∈ l›;omega
 ·omega
theorem pos_zero {l : List Int} {id : Int} : posI l id = 0 ↔ id ∉ l := by
 unfold posI
 by_cases h : id ∈ l
 ·simp [h]
 ·simp [h]
theorem pos_snoc (l : List Int) (x id : Int) : posI (l ++ [x]) id = if id ∈ l then posI l id else if id = x then l.length + 1 else 0 := by
 unfold posI
 by_cases h : id ∈ l
 ·rw [if_pos h, if_pos h, if_pos (by simp [h]), List.idxOf_append, if_pos h]
 ·rw [if_neg h]
  by_cases e : id = x
  ·subst e
   rw [if_pos rfl, if_pos (by simp), List.idxOf_append, if_neg h]
   simp
  ·rw [if_neg e, if_neg (by simp [h, e])]
def onceN (l : List Int) : Nat → List Int
 | 0 => []
 | n + 1 => onceN l n ++ (match l[n]? with | some id => if id ∈ l.take n then [] else [id] | none => [])
def onceI (l : List Int) : List Int := onceN l l.length
theorem once_succ {l : List Int} {n : Nat} {id : Int} (h : l[n]? = some id) : onceN l (n + 1) = onceN l n ++ (if id ∈ l.take n then [] else [id]) := by
 simp only [onceN, h]
theorem once_len (l : List Int) : ∀ n, (onceN l n).length ≤ n
 | 0 => by simp [onceN]
 | n + 1 => by
  have := once_len l n
  simp only [onceN, List.length_append]
  split
  ·split <;> simp <;> omega
  ·simp;omega
theorem take_snocW {l : List Int} {n : Nat} {id : Int} (h : l[n]? = some id) : l.take (n + 1) = l.take n ++ [id] := by
 rw [List.take_add_one, h];rfl
theorem once_memN (l : List Int) : ∀ n, n ≤ l.length → ∀ x, x ∈ onceN l n ↔ x ∈ l.take n
 | 0, _, x => by simp [onceN]
 | n + 1, h, x => by
  have hk : l[n]? = some (l[n]'(by omega)) := List.getElem?_eq_getElem (by omega)
  rw [once_succ hk, take_snocW hk, List.mem_append, List.mem_append, once_memN l n (by omega) x]
  by_cases hin : l[n]'(by omega) ∈ l.take n
  ·rw [if_pos hin]
   constructor
   ·rintro (h | h)
    ·exact .inl h
    ·cases h
   ·rintro (h | h)
    ·exact .inl h
    ·rw [List.mem_singleton] at h;rw [h];exact .inl hin
  ·rw [if_neg hin]
theorem once_nodupN (l : List Int) : ∀ n, n ≤ l.length → (onceN l n).Nodup
 | 0, _ => by simp [onceN]
 | n + 1, h => by
  have hk : l[n]? = some (l[n]'(by omega)) := List.getElem?_eq_getElem (by omega)
  rw [once_succ hk, List.nodup_append]
  refine ⟨once_nodupN l n (by omega), by split <;> simp, ?_⟩
  intro a ha b hb e
  subst e
  split at hb
  ·cases hb
  ·rename_i hin
   rw [List.mem_singleton] at hb
   rw [once_memN l n (by omega), hb] at ha
   exact hin ha
theorem once_nodup (l : List Int) : (onceI l).Nodup := once_nodupN l _ (Nat.le_refl _)
theorem pos_first {l : List Int} {n : Nat} {id : Int} (h : l[n]? = some id) : posI l id = n + 1 ↔ id ∉ l.take n := by
 obtain ⟨hn, hg⟩ := List.getElem?_eq_some_iff.1 h
 have hm : id ∈ l := List.mem_of_getElem? h
 have hs : l = l.take n ++ l.drop n := (List.take_append_drop n l).symm
 unfold posI
 rw [if_pos hm]
 by_cases hin : id ∈ l.take n
 ·have h1 : l.idxOf id = (l.take n).idxOf id := by
   conv => lhs;rw [hs]
   rw [List.idxOf_append, if_pos hin]
  have h2 := List.idxOf_lt_length_iff.2 hin
  rw [List.length_take] at h2
  constructor
  ·intro e;omega
  ·intro e;exact absurd hin e
 ·have hd : l.drop n = id :: l.drop (n + 1) := by rw [List.drop_eq_getElem_cons hn, hg]
  have h1 : l.idxOf id = n := by
   conv => lhs;rw [hs]
   rw [List.idxOf_append, if_neg hin, hd, List.idxOf_cons_self, List.length_take]
   omega
  constructor
  ·intro _;exact hin
  ·intro _;omega
end Go.Proofs.YtbpkddpkcnlmhaaGreat
namespace Go.Proofs.YtbpkddpkcnlmhaaGreat
open Go.RowKit
set_option maxRecDepth 100000
attribute [local irreducible] Go.Code.wpIn Go.wpListIn Go.Calls Gives Go.Exit.then Go.Exit.inBlock Done ObxE
end Go.Proofs.YtbpkddpkcnlmhaaGreat
namespace Go.Proofs.YtbpkddpkcnlmhaaGreat
open Go.RowKit
set_option maxRecDepth 100000
attribute [local irreducible] Go.Code.wpIn Go.wpListIn Go.Calls Gives Go.Exit.then Go.Exit.inBlock Done ObxE
def fewF (l : List ByteArray) (n : Nat) : List ByteArray := (l.take n).map (cutF · 20)
end Go.Proofs.YtbpkddpkcnlmhaaGreat
namespace Go.Proofs.YtbpkddpkcnlmhaaGreat
def at_ (l : List Int) (j : Nat) : Int := l.getD j 0
def lnK (l : List Int) (f : Nat → Nat) (x : Int) : Nat → Nat
 | 0 => 1
 | k + 1 => if at_ l k < x ∧ lnK l f x k ≤ f k then f k + 1 else lnK l f x k
def lnF (l : List Int) : Nat → Nat → Nat
 | 0, _ => 0
 | i + 1, j => if j = i then lnK l (lnF l i) (at_ l i) i else lnF l i j
def ln (l : List Int) (j : Nat) : Nat := lnF l (j + 1) j
def best (l : List Int) : Nat → Nat → Option Nat
 | 0, _ => none
 | b + 1, n => if ln l b = n ∧ (∀ j, best l b n = some j → at_ l b < at_ l j) then some b else best l b n
def top (l : List Int) : Nat → Nat
 | 0 => 0
 | b + 1 => max (top l b) (ln l b)
def down (l : List Int) : Nat → Nat → List Int
 | _, 0 => []
 | b, n + 1 => match best l b (n + 1) with
  | none => []
  | some j => (j : Int) :: down l j n
def lisF (l : List Int) : List Int := (down l l.length (top l l.length)).reverse
theorem at_get {l : List Int} {j : Nat} (h : j < l.length) : l[j] = at_ l j := by simp [at_, List.getD_eq_getElem?_getD, List.getElem?_eq_getElem h]
theorem lnF_ln (l : List Int) : ∀ i j, j < i → lnF l i j = ln l j
 | 0, _, h => by omega
 | i + 1, j, h => by
  by_cases e : j = i
  ·subst e;rfl
  ·rw [← lnF_ln l i j (by omega)]
   simp only [lnF, if_neg e]
theorem lnK_congr (l : List Int) (f g : Nat → Nat) (x : Int) : ∀ k, (∀ j, j < k → f j = g j) → lnK l f x k = lnK l g x k
 | 0, _ => rfl
 | k + 1, h => by
  simp only [lnK]
  rw [lnK_congr l f g x k (fun j hj => h j (by omega)), h k (by omega)]
theorem ln_eq (l : List Int) (i : Nat) : ln l i = lnK l (ln l) (at_ l i) i := by
 have : ln l i = lnK l (lnF l i) (at_ l i) i := by simp [ln, lnF]
 rw [this]
 exact lnK_congr l _ _ _ i (fun j hj => lnF_ln l i j hj)
theorem lnK_spec (l : List Int) (f : Nat → Nat) (x : Int) : ∀ k, 1 ≤ lnK l f x k ∧ (∀ j, j < k → at_ l j < x → f j + 1 ≤ lnK l f x k) ∧ (lnK l f x k = 1 ∨ ∃ j, j < k ∧ at_ l j < x ∧ f j + 1 = lnK l f x k)
 | 0 => ⟨Nat.le_refl _, fun j h => by omega, .inl rfl⟩
 | k + 1 => by
  obtain ⟨h1, h2, h3⟩ := lnK_spec l f x k
  simp only [lnK]
  split
  ·rename_i hc
   refine ⟨by omega, fun j hj hx => ?_, .inr ⟨k, by omega, hc.1, rfl⟩⟩
   by_cases e : j = k
   ·subst e;exact Nat.le_refl _
   ·have := h2 j (by omega) hx;omega
  ·rename_i hc
   refine ⟨h1, fun j hj hx => ?_, h3.elim .inl (fun ⟨j, a, b, c⟩ => .inr ⟨j, by omega, b, c⟩)⟩
   by_cases e : j = k
   ·subst e
    have : ¬ lnK l f x j ≤ f j := fun h => hc ⟨hx, h⟩
    omega
   ·exact h2 j (by omega) hx
theorem ln_pos (l : List Int) (i : Nat) : 1 ≤ ln l i := by rw [ln_eq]; exact (lnK_spec l _ _ i).1
theorem ln_ge {l : List Int} {i j : Nat} (h : j < i) (hx : at_ l j < at_ l i) : ln l j + 1 ≤ ln l i := by rw [ln_eq l i]; exact (lnK_spec l _ _ i).2.1 j h hx
theorem ln_ex {l : List Int} {i : Nat} (h : ln l i ≠ 1) : ∃ j, j < i ∧ at_ l j < at_ l i ∧ ln l j + 1 = ln l i := by
 have := (lnK_spec l (ln l) (at_ l i) i).2.2
 rw [← ln_eq] at this
 exact this.resolve_left h
theorem best_some {l : List Int} : ∀ {b n j : Nat}, best l b n = some j → j < b ∧ ln l j = n ∧ (∀ k, k < b → ln l k = n → at_ l j ≤ at_ l k) ∧ ∀ k, k < j → ln l k = n → at_ l j < at_ l k
 | 0, n, j, h => by simp [best] at h
 | b + 1, n, j, h => by
  simp only [best] at h
  split at h
  ·rename_i hc
   injection h with h;subst h
   have old : ∀ k, k < b → ln l k = n → at_ l b < at_ l k := by
    intro k hk hn
    cases hb : best l b n with
    | none =>
     exfalso
     have : ∀ b k, k < b → ln l k = n → best l b n ≠ none := by
      intro b
      induction b with
      | zero => intro k hk;omega
      | succ b ih =>
       intro k hk hn
       simp only [best]
       split
       ·simp
       ·rename_i hc
        by_cases e : k = b
        ·subst e
         intro hnone
         exact hc ⟨hn, fun j hj => by rw [hnone] at hj;cases hj⟩
        ·exact ih k (by omega) hn
     exact this b k hk hn hb
    | some j' =>
     have h1 := hc.2 j' hb
     have h2 := (best_some hb).2.2.1 k hk hn
     omega
   refine ⟨by omega, hc.1, fun k hk hn => ?_, fun k hk hn => old k hk hn⟩
   by_cases e : k = b
   ·subst e;exact Int.le_refl _
   ·exact Int.le_of_lt (old k (by omega) hn)
  ·rename_i hc
   obtain ⟨h1, h2, h3, h4⟩ := best_some h
   refine ⟨by omega, h2, fun k hk hn => ?_, h4⟩
   by_cases e : k = b
   ·subst e
    have : ¬ ∀ j, best l k n = some j → at_ l k < at_ l j := fun h => hc ⟨hn, h⟩
    have hlt : ¬ at_ l k < at_ l j := fun hlt => this (fun j' hj' => by rw [h] at hj';injection hj' with hj';rw [← hj'];exact hlt)
    omega
   ·exact h3 k (by omega) hn
theorem best_none {l : List Int} {n : Nat} : ∀ {b : Nat}, best l b n = none → ∀ k, k < b → ln l k ≠ n
 | 0, _, k, hk => by omega
 | b + 1, h, k, hk => by
  simp only [best] at h
  split at h
  ·cases h
  ·rename_i hc
   by_cases e : k = b
   ·subst e
    intro hn
    exact hc ⟨hn, fun j hj => by rw [h] at hj;cases hj⟩
   ·exact best_none h k (by omega)
theorem best_ex {l : List Int} {b n k : Nat} (hk : k < b) (hn : ln l k = n) : ∃ j, best l b n = some j := by
 cases h : best l b n with
 | none => exact absurd hn (best_none h k hk)
 | some j => exact ⟨j, rfl⟩
theorem best_zero (l : List Int) (b : Nat) : best l b 0 = none := by
 cases h : best l b 0 with
 | none => rfl
 | some j => have := (best_some h).2.1;have := ln_pos l j;omega
theorem top_ge {l : List Int} : ∀ {b k : Nat}, k < b → ln l k ≤ top l b
 | 0, _, h => by omega
 | b + 1, k, h => by
  simp only [top]
  by_cases e : k = b
  ·subst e;omega
  ·have := top_ge (l := l) (b := b) (k := k) (by omega);omega
theorem top_ex {l : List Int} : ∀ {b : Nat}, 0 < top l b → ∃ k, k < b ∧ ln l k = top l b
 | 0, h => by simp [top] at h
 | b + 1, h => by
  simp only [top] at h ⊢
  by_cases e : top l b ≤ ln l b
  ·exact ⟨b, by omega, by omega⟩
  ·obtain ⟨k, h1, h2⟩ := top_ex (l := l) (b := b) (by omega)
   exact ⟨k, by omega, by omega⟩
theorem ln_below {l : List Int} : ∀ (m k : Nat), ln l k ≤ m → ∀ n, 1 ≤ n → n ≤ ln l k → ∃ j, j ≤ k ∧ ln l j = n
 | 0, k, h, n, h1, h2 => by omega
 | m + 1, k, h, n, h1, h2 => by
  by_cases e : n = ln l k
  ·exact ⟨k, Nat.le_refl _, e.symm⟩
  ·obtain ⟨j, h3, _, h5⟩ := ln_ex (l := l) (i := k) (by omega)
   obtain ⟨q, h6, h7⟩ := ln_below (l := l) m j (by omega) n h1 (by omega)
   exact ⟨q, by omega, h7⟩
theorem best_top {l : List Int} {b n : Nat} (h1 : 1 ≤ n) (h2 : n ≤ top l b) : ∃ j, best l b n = some j := by
 obtain ⟨k, hk, hl⟩ := top_ex (l := l) (b := b) (by omega)
 obtain ⟨j, hj, hn⟩ := ln_below (l := l) (ln l k) k (Nat.le_refl _) n h1 (by omega)
 exact best_ex (by omega) hn
theorem best_lt {l : List Int} {b n j q : Nat} (hj : best l b n = some j) (hq : best l b (n + 1) = some q) : at_ l j < at_ l q := by
 obtain ⟨h1, h2, h3, _⟩ := best_some hj
 obtain ⟨g1, g2, _, _⟩ := best_some hq
 obtain ⟨k, k1, k2, k3⟩ := ln_ex (l := l) (i := q) (by have := ln_pos l j;omega)
 have := h3 k (by omega) (by omega)
 omega
theorem best_mono {l : List Int} {b : Nat} : ∀ {n m j q : Nat}, n < m → best l b n = some j → best l b m = some q → at_ l j < at_ l q
 | n, 0, _, _, h, _, _ => by omega
 | n, m + 1, j, q, h, hj, hq => by
  by_cases e : n = m
  ·subst e;exact best_lt hj hq
  ·obtain ⟨g1, g2, _, _⟩ := best_some hq
   have hn := (best_some hj).2.1
   have := ln_pos l j
   obtain ⟨k, k1, k2⟩ := ln_below (l := l) (ln l q) q (Nat.le_refl _) m (by omega) (by omega)
   obtain ⟨p, hp⟩ := best_ex (l := l) (b := b) (n := m) (k := k) (by omega) k2
   have h1 := best_mono (n := n) (m := m) (by omega) hj hp
   have h2 := best_lt hp hq
   omega
def endsF (l : List Int) (i : Nat) : List Int := (List.range (top l i)).map (fun k => (((best l i (k + 1)).getD 0 : Nat) : Int))
def prevF (l : List Int) (j : Nat) : Int := match best l j (ln l j - 1) with | none => -1 | some q => q
def aheadF (l : List Int) (N i : Nat) : List Int := (List.range N).map (fun j => if j < i then prevF l j else 0)
theorem ends_len (l : List Int) (i : Nat) : (endsF l i).length = top l i := by simp [endsF]
theorem ends_get {l : List Int} {i k : Nat} (h : k < (endsF l i).length) : ∃ j, best l i (k + 1) = some j ∧ (endsF l i)[k] = (j : Int) := by
 obtain ⟨j, hj⟩ := best_top (l := l) (b := i) (n := k + 1) (by omega) (by rw [ends_len] at h;omega)
 exact ⟨j, hj, by simp [endsF, hj]⟩
theorem ahead_len (l : List Int) (N i : Nat) : (aheadF l N i).length = N := by simp [aheadF]
theorem ahead_zero (l : List Int) (N : Nat) : aheadF l N 0 = List.replicate N 0 := by
 apply List.ext_getElem
 ·simp [aheadF]
 ·intro k h1 h2;simp [aheadF]
theorem top_le (l : List Int) : ∀ i, top l i ≤ i
  | 0 => Nat.le_refl _
  | i + 1 => by
    have h1 := top_le l i
    have h2 : ln l i ≤ i + 1 := by
      have : ∀ m i, i ≤ m → ln l i ≤ i + 1 := by
        intro m
        induction m with
        | zero => intro i hi; by_cases e : ln l i = 1
                  · omega
                  · obtain ⟨j, hj, _⟩ := ln_ex e; omega
        | succ m ih =>
          intro i hi
          by_cases e : ln l i = 1
          · omega
          · obtain ⟨j, hj, _, hl⟩ := ln_ex e
            have := ih j (by omega)
            omega
      exact this i i (Nat.le_refl _)
    simp only [top]
    omega
theorem ln_found {l : List Int} {i n : Nat} (hn : n ≤ (endsF l i).length) (h1 : ∀ k (h : k < (endsF l i).length), k < n → at_ l (endsF l i)[k].toNat < at_ l i) (h2 : ∀ k (h : k < (endsF l i).length), n ≤ k → at_ l i ≤ at_ l (endsF l i)[k].toNat) : ln l i = n + 1 := by
 have hle : n + 1 ≤ ln l i := by
  cases n with
  | zero => exact ln_pos l i
  | succ n =>
   obtain ⟨j, hj, he⟩ := ends_get (l := l) (i := i) (k := n) (by omega)
   have := h1 n (by omega) (by omega)
   rw [he, Int.toNat_natCast] at this
   obtain ⟨g1, g2, _⟩ := best_some hj
   have := ln_ge g1 this
   omega
 rcases Nat.lt_or_ge (n + 1) (ln l i) with hlt | hge
 ·exfalso
  obtain ⟨k, k1, k2, k3⟩ := ln_ex (l := l) (i := i) (by omega)
  have htop := top_ge (l := l) k1
  obtain ⟨m, hm⟩ : ∃ m, ln l k = m + 1 := ⟨ln l k - 1, by have := ln_pos l k;omega⟩
  obtain ⟨j, hj, he⟩ := ends_get (l := l) (i := i) (k := m) (by rw [ends_len];omega)
  have := h2 m (by rw [ends_len];omega) (by omega)
  rw [he, Int.toNat_natCast] at this
  have := (best_some hj).2.2.1 k k1 hm
  omega
 ·omega
theorem best_other {l : List Int} {i n : Nat} (h : ln l i ≠ n) : best l (i + 1) n = best l i n := by
 simp only [best]
 rw [if_neg (fun e => h e.1)]
theorem ends_app {l : List Int} {i : Nat} (h : ln l i = top l i + 1) : endsF l (i + 1) = endsF l i ++ [(i : Int)] := by
 have ht : top l (i + 1) = top l i + 1 := by simp only [top];omega
 unfold endsF
 rw [ht, List.range_succ, List.map_append]
 congr 1
 ·apply List.map_congr_left
  intro k hk
  rw [List.mem_range] at hk
  rw [best_other (by omega)]
 ·simp only [List.map_cons, List.map_nil, List.cons.injEq, and_true]
  have hn : best l i (top l i + 1) = none := by
   cases hb : best l i (top l i + 1) with
   | none => rfl
   | some j => obtain ⟨g1, g2, _⟩ := best_some hb;have := top_ge (l := l) g1;omega
  have : best l (i + 1) (top l i + 1) = some i := by
   simp only [best]
   rw [if_pos ⟨h, fun j hj => by rw [hn] at hj;cases hj⟩]
  rw [this];rfl
theorem ends_set {l : List Int} {i n j : Nat} (h : ln l i = n + 1) (hn : n < top l i) (hj : best l i (n + 1) = some j) (hx : at_ l i < at_ l j) : endsF l (i + 1) = (endsF l i).set n (i : Int) := by
 have ht : top l (i + 1) = top l i := by simp only [top];omega
 apply List.ext_getElem
 ·simp [ends_len, ht]
 ·intro k h1 h2
  have hk : k < top l i := by rw [ends_len, ht] at h1;exact h1
  rw [List.getElem_set]
  split
  ·rename_i e
   subst e
   have : best l (i + 1) (n + 1) = some i := by
    simp only [best]
    rw [if_pos ⟨h, fun q hq => by rw [hj] at hq;injection hq with hq;rw [← hq];exact hx⟩]
   simp [endsF, this]
  ·simp only [endsF, List.getElem_map, List.getElem_range]
   rw [best_other (by omega)]
theorem ends_same {l : List Int} {i n j : Nat} (h : ln l i = n + 1) (hn : n < top l i) (hj : best l i (n + 1) = some j) (hx : ¬ at_ l i < at_ l j) : endsF l (i + 1) = endsF l i := by
 have ht : top l (i + 1) = top l i := by simp only [top];omega
 unfold endsF
 rw [ht]
 apply List.map_congr_left
 intro k hk
 by_cases e : k = n
 ·subst e
  have : best l (i + 1) (k + 1) = best l i (k + 1) := by
   conv => lhs;simp only [best]
   rw [if_neg (fun e => hx (e.2 j hj))]
  rw [this]
 ·rw [best_other (by omega)]
theorem ahead_set {l : List Int} {N i : Nat} : aheadF l N (i + 1) = (aheadF l N i).set i (prevF l i) := by
 apply List.ext_getElem
 ·simp [ahead_len]
 ·intro k h1 h2
  rw [List.getElem_set]
  simp only [aheadF, List.getElem_map, List.getElem_range]
  by_cases e : i = k
  ·subst e;rw [if_pos (by omega), if_pos rfl]
  ·rw [if_neg e]
   by_cases e : k < i
   ·rw [if_pos e, if_pos (by omega)]
   ·rw [if_neg e, if_neg (by omega)]
theorem prev_found {l : List Int} {i n : Nat} (h : ln l i = n + 1) (hn : n ≤ (endsF l i).length) : prevF l i = if h : 0 < n then (endsF l i)[n - 1] else -1 := by
 unfold prevF
 rw [h, Nat.add_sub_cancel]
 split
 ·rename_i hb
  by_cases h0 : 0 < n
  ·obtain ⟨j, hj, _⟩ := ends_get (l := l) (i := i) (k := n - 1) (by omega)
   rw [show n - 1 + 1 = n by omega, hb] at hj
   cases hj
  ·rw [dif_neg h0]
 ·rename_i q hb
  by_cases h0 : 0 < n
  ·obtain ⟨j, hj, he⟩ := ends_get (l := l) (i := i) (k := n - 1) (by omega)
   rw [show n - 1 + 1 = n by omega, hb] at hj
   injection hj with hj
   rw [dif_pos h0, he, hj]
  ·have : n = 0 := by omega
   subst this
   rw [best_zero] at hb;cases hb
theorem down_len (l : List Int) : ∀ n b, (down l b n).length ≤ n
 | 0, _ => Nat.le_refl _
 | n + 1, b => by
  simp only [down]
  split
  ·simp
  ·rename_i j _;have := down_len l n j;simp only [List.length_cons];omega
def restF (l : List Int) (p : Int) : List Int := if p = -1 then [] else p :: down l p.toNat (ln l p.toNat - 1)
theorem down_rest {l : List Int} {b n q : Nat} (h : best l b (n + 1) = some q) : restF l q = down l b (n + 1) := by
 have h2 := (best_some h).2.1
 unfold restF
 rw [if_neg (by omega), Int.toNat_natCast, h2]
 simp [down, h]
theorem rest_step {l : List Int} {q : Nat} : restF l q = (q : Int) :: restF l (prevF l q) := by
 conv => lhs;unfold restF
 rw [if_neg (by omega), Int.toNat_natCast]
 congr 1
 unfold prevF
 cases hn : ln l q - 1 with
 | zero => rw [best_zero];simp [down, restF]
 | succ n =>
  cases hb : best l q (n + 1) with
  | none => simp [down, hb, restF]
  | some j => exact (down_rest hb).symm
theorem prev_lt (l : List Int) (q : Nat) : -1 ≤ prevF l q ∧ prevF l q < q := by
 unfold prevF
 split
 ·omega
 ·rename_i j h;have := (best_some h).1;omega
theorem ahead_get {l : List Int} {q : Nat} (h : q < (aheadF l l.length l.length).length) : (aheadF l l.length l.length)[q] = prevF l q := by
 have : q < l.length := by rw [ahead_len] at h;exact h
 simp [aheadF, this]
def lensF (l : List Int) (i : Nat) : List Int := (List.range i).map (fun j => (ln l j : Int))
theorem lens_len (l : List Int) (i : Nat) : (lensF l i).length = i := by simp [lensF]
theorem lens_succ (l : List Int) (i : Nat) : lensF l (i + 1) = lensF l i ++ [(ln l i : Int)] := by simp [lensF, List.range_succ]
theorem lens_get {l : List Int} {i k : Nat} (h : k < (lensF l i).length) : (lensF l i)[k] = (ln l k : Int) := by simp [lensF]
def pl (o : Option Nat) : Int := match o with | none => -1 | some j => j
def bestR (l : List Int) (n : Nat) (fit : Int → Bool) : Nat → Option Nat
 | 0 => none
 | i + 1 => if ln l i = n ∧ fit (at_ l i) = true ∧ (∀ j, bestR l n fit i = some j → at_ l i < at_ l j) then some i else bestR l n fit i
theorem down_full {l : List Int} : ∀ (n b : Nat), n ≤ top l b → (∀ m, n = m + 1 → ∃ j, best l b n = some j) → (down l b n).length = n
 | 0, _, _, _ => rfl
 | n + 1, b, h, hb => by
  obtain ⟨j, hj⟩ := hb n rfl
  have h2 := (best_some hj).2.1
  simp only [down, hj, List.length_cons]
  congr 1
  refine down_full n j ?_ ?_
  ·cases n with
   | zero => omega
   | succ n =>
    obtain ⟨k, k1, _, k3⟩ := ln_ex (l := l) (i := j) (by omega)
    have := top_ge (l := l) k1
    omega
  ·rintro m rfl
   obtain ⟨k, k1, _, k3⟩ := ln_ex (l := l) (i := j) (by omega)
   exact best_ex k1 (by omega)
theorem lis_len (l : List Int) : (lisF l).length = top l l.length := by
 rw [lisF, List.length_reverse]
 exact down_full _ _ (Nat.le_refl _) (fun m hm => best_top (by omega) (Nat.le_refl _))
theorem ln_le (l : List Int) : ∀ m i, i ≤ m → ln l i ≤ i + 1
 | 0, i, h => by
  by_cases e : ln l i = 1
  ·omega
  ·obtain ⟨j, hj, _⟩ := ln_ex e;omega
 | m + 1, i, h => by
  by_cases e : ln l i = 1
  ·omega
  ·obtain ⟨j, hj, _, hl⟩ := ln_ex e
   have := ln_le l m j (by omega)
   omega
theorem lnK_le (l : List Int) (x : Int) (k : Nat) : lnK l (ln l) x k ≤ k + 1 := by
 rcases (lnK_spec l (ln l) x k).2.2 with h | ⟨j, h1, _, h3⟩
 ·omega
 ·have := ln_le l j j (Nat.le_refl _);omega
theorem lnK_step (l : List Int) (x : Int) (k : Nat) : lnK l (ln l) x (k + 1) = if at_ l k < x ∧ lnK l (ln l) x k ≤ ln l k then ln l k + 1 else lnK l (ln l) x k := rfl
theorem down_mem {l : List Int} : ∀ {n b : Nat} {x : Int}, x ∈ down l b n → 0 ≤ x ∧ x < b
 | 0, _, _, h => by simp [down] at h
 | n + 1, b, x, h => by
  simp only [down] at h
  split at h
  ·cases h
  ·rename_i j hj
   have h1 := (best_some hj).1
   rcases List.mem_cons.1 h with rfl | h
   ·omega
   ·have := down_mem h;omega
theorem down_falls {l : List Int} : ∀ {n b i : Nat} (h : i + 1 < (down l b n).length), 0 ≤ (down l b n)[i + 1] ∧ (down l b n)[i + 1] < (down l b n)[i] ∧ (down l b n)[i] < b ∧ at_ l (down l b n)[i + 1].toNat < at_ l (down l b n)[i].toNat
 | 0, _, _, h => by simp [down] at h
 | n + 1, b, i, h => by
  cases hb : best l b (n + 1) with
  | none => simp [down, hb] at h
  | some j =>
   have e : down l b (n + 1) = (j : Int) :: down l j n := by simp [down, hb]
   simp only [e] at h ⊢
   obtain ⟨g1, g2, _⟩ := best_some hb
   cases i with
   | zero =>
    cases n with
    | zero => simp [down] at h
    | succ n =>
     cases hb' : best l j (n + 1) with
     | none => simp [down, hb'] at h
     | some q =>
      have e' : down l j (n + 1) = (q : Int) :: down l q n := by simp [down, hb']
      simp only [e', List.getElem_cons_zero, List.getElem_cons_succ, Int.toNat_natCast]
      obtain ⟨k1, k2, k3, _⟩ := best_some hb'
      obtain ⟨p, p1, p2, p3⟩ := ln_ex (l := l) (i := j) (by omega)
      have := k3 p p1 (by omega)
      omega
   | succ i =>
    simp only [List.getElem_cons_succ]
    have := down_falls (l := l) (n := n) (b := j) (i := i) (by simpa using h)
    omega
theorem lis_rises {l : List Int} {i : Nat} (h : i + 1 < (lisF l).length) : 0 ≤ (lisF l)[i] ∧ (lisF l)[i] < (lisF l)[i + 1] ∧ (lisF l)[i + 1] < l.length ∧ at_ l (lisF l)[i].toNat < at_ l (lisF l)[i + 1].toNat := by
 have hl : (lisF l).length = (down l l.length (top l l.length)).length := by simp [lisF]
 have := down_falls (l := l) (b := l.length) (n := top l l.length) (i := (lisF l).length - 1 - (i + 1)) (by omega)
 have e1 : (lisF l)[i + 1] = (down l l.length (top l l.length))[(lisF l).length - 1 - (i + 1)]'(by omega) := by
  simp only [lisF, List.getElem_reverse, List.length_reverse]
 have e2 : (lisF l)[i] = (down l l.length (top l l.length))[(lisF l).length - 1 - (i + 1) + 1]'(by omega) := by
  simp only [lisF, List.getElem_reverse, List.length_reverse]
  congr 1
  simp only [lisF, List.length_reverse] at h
  omega
 rw [e1, e2]
 exact this
theorem lis_in {l : List Int} {i : Nat} (h : i < (lisF l).length) : 0 ≤ (lisF l)[i] ∧ (lisF l)[i] < l.length := by
 have : (lisF l)[i] ∈ down l l.length (top l l.length) := by
  have h1 := List.getElem_mem h
  have h2 : ∀ x, x ∈ lisF l → x ∈ down l l.length (top l l.length) := fun x hx => by unfold lisF at hx;exact List.mem_reverse.1 hx
  exact h2 _ h1
 exact down_mem this
def RisesL (xs : List Int) : Prop := ∀ i j (h : i < j) (hj : j < xs.length), xs[i] < xs[j]
theorem lis_Rises (l : List Int) : RisesL (lisF l) := by
 intro i j h hj
 have : ∀ d (hd : i + 1 + d < (lisF l).length), (lisF l)[i] < (lisF l)[i + 1 + d] := by
  intro d
  induction d with
  | zero => intro hd;exact (lis_rises hd).2.1
  | succ d ih =>
   intro hd
   have h1 := ih (by omega)
   have h2 := (lis_rises (l := l) (i := i + 1 + d) hd).2.1
   exact Int.lt_trans h1 h2
 have e := this (j - (i + 1)) (by omega)
 have e2 : i + 1 + (j - (i + 1)) = j := by omega
 simp only [e2] at e
 exact e
def Stands (xs : List Int) (x : Int) (a : Nat) : Prop := a ≤ xs.length ∧ (∀ k (h : k < xs.length), k < a → xs[k] < x) ∧ (∀ k (h : k < xs.length), a ≤ k → x ≤ xs[k])
def othersN (l : List Int) (i : Nat) : List Int := ((List.range i).filter (fun (j : Nat) => !decide ((j : Int) ∈ lisF l))).map (fun (j : Nat) => (j : Int))
theorem lis_mem {l : List Int} {x : Int} (h : x ∈ lisF l) : 0 ≤ x ∧ x < l.length := by
 obtain ⟨k, hk, rfl⟩ := List.getElem_of_mem h
 exact lis_in hk
end Go.Proofs.YtbpkddpkcnlmhaaGreat
namespace Go.Proofs.YtbpkddpkcnlmhaaGreat
open Go.RowKit Go.Shelf
def rhoRev : Ren := { f := fun _ => 92, t := fun x => if x = 3 then 3 else if x = 4 then 4 else if x = 28 then 22 else 0, g := fun x => x }
theorem laysRev : Lays.n112 Tryz.prog rhoRev where
 mixed := mixed
 f112 := by kernel_rfl
 t0 := by kernel_rfl
 a0 := fun w => aggOf_run (aT rfl) w
 z0 := fun w => szOf_run (zT rfl) w
 v0 := fun w => zeroOf_run (oT rfl) w
 t3 := by kernel_rfl
 a3 := fun w => aggOf_run (aT rfl) w
 z3 := fun w => szOf_run (zT rfl) w
 v3 := fun w => zeroOf_run (oT rfl) w
 t4 := by kernel_rfl
 a4 := fun w => aggOf_run (aT rfl) w
 z4 := fun w => szOf_run (zT rfl) w
 v4 := fun w => zeroOf_run (oT rfl) w
 t28 := by kernel_rfl
 a28 := fun w => aggOf_run (aT rfl) w
 z28 := fun w => szOf_run (zT rfl) w
 v28 := fun w => zeroOf_run (oT rfl) w
theorem rev_any {w0 w : World} {L L' : List HP} {E : TypeId} {xs : List Int} {v : Value} (hS : St w0 L w) (hat : At (OwT E xs v) L L') (h0 : xs ≠ []) (hl : xs.length ≤ 9223372036854775807) :
  Calls Tryz.prog 92 #[v] w (Ret fun _ w' => St w0 (OwT E xs.reverse v :: L') w') := by
 obtain ⟨b, off, cap, rfl, hc, hf⟩ := hS.ownCells hat h0
 refine (Any.slices_Reverse_int_cells laysRev b off xs.length cap xs w (Nat.le_refl _) hl (fun j hj => hc j _ ?_) (fun j _ => hf _)).mono ?_
 ·rw [enc_ints, List.getElem?_map, List.getElem?_eq_getElem hj]
  simp [List.getD_eq_getElem?_getD, List.getElem?_eq_getElem hj]
 ·rintro e w' ⟨he, q, rfl⟩
  refine ⟨_, he, ?_⟩
  have h1 := (hS.drewN q).ownSet (ys := xs.reverse) hat rfl (by simp)
  have : enc xs.reverse = (xs.take xs.length).reverse.map (Value.int .i64) := by rw [enc_ints];simp
  rw [← this]
  exact h1
end Go.Proofs.YtbpkddpkcnlmhaaGreat
