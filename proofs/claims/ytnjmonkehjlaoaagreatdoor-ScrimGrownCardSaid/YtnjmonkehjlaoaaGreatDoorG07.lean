/- Steps that find their own grounds. Rows of one's own at known places: parts of them, copies into them, room, and whether two lie apart. Rows of one's own: cleared in part. From the form's reading of plain arguments to what they are. -/
import Derived.Test.YtnjmonkehjlaoaaGreatDoorG05
import Derived.Test.YtnjmonkehjlaoaaGreatDoorG06
import Derived.Lib.Overlaps
import Derived.Lib.AppendZerosOnto
set_option linter.all false
namespace Go.Proofs.YtnjmonkehjlaoaaGreatDoor
variable {df : List Deferred}
variable {rr : Option Nat}
open Go.RowKit
set_option maxRecDepth 100000
section
variable {Q : Exit → Act → World → Prop} {a : Act} {w w' : World} {w0 : Bs} {n d : Nat} {l r : List (Nat × Value)} {L L' : List HP} {ops : Array Oper} {rest : List Oper}
 {dst : Option Nat} {R : Value → World → Prop} {ty : TypeId} {pos : String} {af : Array Edge} {g : Option (Nat × Bool)} {o : Op}
theorem Kn.kp (ts : List Nat) (hk : Kn df n a l) (h : KP l ts r := by repeat (first | exact KP.nil | apply KP.cons rfl)) : Kn df n a r := hk.keep h
theorem Kn.sd (hk : Kn df n a l) (h : Proofs.YtnjmonkehjlaoaaGreatDoor.subD l [] r := by (repeat (first | exact trivial | refine ⟨rfl, ?_⟩ | refine ⟨trivial, ?_⟩)); fail_if_success focus skip) : Kn df n a r := hk.subD h
theorem St.sb (h : St w0 L w) (hs : Sub L' L := by (repeat (first | exact Sub.nil | exact Sub.refl | refine Sub.cons atx ?_)); fail_if_success focus skip) : St w0 L' w := h.sub hs
theorem st {v : Value} (hk : Kn df n a l) (k : ∀ a', Kn df n a' ((d, v) :: l) → wpListIn (FR rr) 0 Tryz.prog ops Q rest a' w)
  (hg : gdK ops l g = some true := by rfl) (hd : Nat.blt d n = true := by rfl)
  (he : Gives Tryz.prog ⟨some d, o, ty, pos, af, g⟩ a w (fun v' w' => v' = v ∧ w' = w) := by first | exact g_move hk ⟨rfl, rfl⟩ | exact g_assign hk ⟨rfl, rfl⟩ | exact g_field hk ⟨rfl, rfl⟩ (fT rfl) | exact g_leqT hk ⟨rfl, rfl⟩ (hpq := by first | assumption | omega) | exact g_leqF hk ⟨rfl, rfl⟩ (hpq := by first | assumption | omega) | exact g_lssT hk ⟨rfl, rfl⟩ (hpq := by first | assumption | omega) | exact g_lssF hk ⟨rfl, rfl⟩ (hpq := by first | assumption | omega) | exact g_geqT hk ⟨rfl, rfl⟩ (hpq := by first | assumption | omega) | exact g_geqF hk ⟨rfl, rfl⟩ (hpq := by first | assumption | omega) | exact g_gtrT hk ⟨rfl, rfl⟩ (hpq := by first | assumption | omega) | exact g_gtrF hk ⟨rfl, rfl⟩ (hpq := by first | assumption | omega) | exact g_eqiT hk ⟨rfl, rfl⟩ | exact g_eqiE hk ⟨rfl, rfl⟩ (hpq := by first | assumption | omega) | exact g_eqiF hk ⟨rfl, rfl⟩ (hpq := by first | assumption | omega) | exact g_neiT hk ⟨rfl, rfl⟩ (hpq := by first | assumption | omega) | exact g_neiF hk ⟨rfl, rfl⟩ (hpq := by first | assumption | omega) | exact g_eqbT hk ⟨rfl, rfl⟩ Tryz.underlying4 | exact g_eqST hk ⟨rfl, rfl⟩ (hpq := by first | rfl | assumption) | exact g_eqSF hk ⟨rfl, rfl⟩ (hpq := by assumption) | exact g_neST hk ⟨rfl, rfl⟩ (hpq := by assumption) | exact g_neSF hk ⟨rfl, rfl⟩ (hpq := by first | rfl | assumption) | exact g_build hk ⟨rfl, rfl⟩ (fsT rfl) (oT rfl) | exact g_pick_t hk ⟨rfl, rfl⟩ | exact g_pick_f hk ⟨rfl, rfl⟩ | exact g_add hk ⟨rfl, rfl⟩ (hlo := by omega) (hhi := by omega) | exact g_sub hk ⟨rfl, rfl⟩ (hlo := by omega) (hhi := by omega) | exact g_eqb hk ⟨rfl, rfl⟩ Tryz.underlying4 | exact g_neb hk ⟨rfl, rfl⟩ Tryz.underlying4 | exact g_not hk ⟨rfl, rfl⟩ | exact g_min hk ⟨rfl, rfl⟩ | exact g_max hk ⟨rfl, rfl⟩ | exact g_ex0 hk ⟨rfl, rfl⟩ | exact g_ex1 hk ⟨rfl, rfl⟩ | exact g_extract hk ⟨rfl, rfl⟩ | exact g_nilc hk ⟨rfl, rfl⟩ | exact g_own1 hk hS ⟨rfl, rfl⟩ (aT rfl) | exact g_ownN hk hS ⟨rfl, rfl⟩ (aT rfl) (zT rfl) | exact g_lenT hk ⟨rfl, rfl⟩ (ht := eT rfl) (hs := (by first | exact St.rdT hS (by assumption) | exact OwT.rd (hS.rd (A := OwT _ _ _) atx) | assumption)) | exact g_lenSt hk ⟨rfl, rfl⟩ (sT rfl) | exact g_ixT hk ⟨rfl, rfl⟩ (ht := eT rfl) (hs := (by first | exact St.rdT hS (by assumption) | exact OwT.rd (hS.rd (A := OwT _ _ _) atx) | assumption)) (hi := (by first | assumption | exact lt_of_get (by assumption) | omega | ((repeat rw [List.length_set]);(repeat rw [List.length_append]);(repeat rw [List.length_cons]);(repeat rw [List.length_nil]);omega))) (hE := zT rfl) | exact g_ixTi hk ⟨rfl, rfl⟩ (ht := eT rfl) (hs := (by first | exact St.rdT hS (by assumption) | exact OwT.rd (hS.rd (A := OwT _ _ _) atx) | assumption)) (h0 := by omega) (hi := (by first | omega | ((repeat rw [List.length_set]);(repeat rw [List.length_append]);(repeat rw [List.length_cons]);(repeat rw [List.length_nil]);omega))) (hE := zT rfl) | exact g_ldT1 hk ⟨rfl, rfl⟩ (aT rfl) (hs := (by first | exact St.rdT hS (by assumption) | exact OwT.rd (hS.rd (A := OwT _ _ _) atx) | assumption)) (hi := by assumption) | exact g_ldTF hk ⟨rfl, rfl⟩ (aT rfl) (hs := (by first | exact St.rdT hS (by assumption) | exact OwT.rd (hS.rd (A := OwT _ _ _) atx) | assumption)) (hi := by assumption) | exact g_ldTN hk ⟨rfl, rfl⟩ (aT rfl) (hs := (by first | exact St.rdT hS (by assumption) | exact OwT.rd (hS.rd (A := OwT _ _ _) atx) | assumption)) (hi := by assumption) (hu := (by simp only [Enc.f, List.cons_append, List.nil_append];rfl)) (hz := zT rfl) | exact g_ldTS hk ⟨rfl, rfl⟩ (aT rfl) (hs := (by first | exact St.rdT hS (by assumption) | exact OwT.rd (hS.rd (A := OwT _ _ _) atx) | assumption)) (hi := by assumption) (hz := zT rfl) | exact g_ldT2 hk ⟨rfl, rfl⟩ (aT rfl) (hs := (by first | exact St.rdT hS (by assumption) | exact OwT.rd (hS.rd (A := OwT _ _ _) atx) | assumption)) (hi := by assumption) | exact g_slSt hk ⟨rfl, rfl⟩ (ht := sT rfl) (h0 := by omega) (h1 := by omega) | exact g_slSf hk ⟨rfl, rfl⟩ (ht := sT rfl) (h0 := by omega) (h1 := by omega) | exact g_slS hk ⟨rfl, rfl⟩ (ht := sT rfl) (h0 := by omega) (h1 := by omega) (h2 := by omega) | exact g_ixS0 hk (ht := sT rfl) (h1 := by assumption) (h := ⟨rfl, rfl⟩) | exact g_ixS hk (ht := sT rfl) (h1 := by assumption) (h := ⟨rfl, rfl⟩) | exact g_makeFunc hk ⟨rfl, rfl⟩ | exact g_fieldV hk ⟨rfl, rfl⟩ (fvT rfl) | exact g_la1 hk ⟨rfl, rfl⟩ (aT rfl) (hs := (by first | exact St.rdT hS (by assumption) | exact OwT.rd (hS.rd (A := OwT _ _ _) atx) | assumption)) (hi := (by first | omega | ((repeat rw [List.length_set]);(repeat rw [List.length_append]);(repeat rw [List.length_cons]);(repeat rw [List.length_nil]);omega))) | exact g_laF hk ⟨rfl, rfl⟩ (aT rfl) (hs := (by first | exact St.rdT hS (by assumption) | exact OwT.rd (hS.rd (A := OwT _ _ _) atx) | assumption)) (hi := (by first | omega | ((repeat rw [List.length_set]);(repeat rw [List.length_append]);(repeat rw [List.length_cons]);(repeat rw [List.length_nil]);omega))) | exact g_laN hk ⟨rfl, rfl⟩ (aT rfl) (hs := (by first | exact St.rdT hS (by assumption) | exact OwT.rd (hS.rd (A := OwT _ _ _) atx) | assumption)) (hi := (by first | omega | ((repeat rw [List.length_set]);(repeat rw [List.length_append]);(repeat rw [List.length_cons]);(repeat rw [List.length_nil]);omega))) (hu := rfl) (hz := zT rfl) | exact g_la2 hk ⟨rfl, rfl⟩ (aT rfl) (hs := (by first | exact St.rdT hS (by assumption) | exact OwT.rd (hS.rd (A := OwT _ _ _) atx) | assumption)) (hi := (by first | omega | ((repeat rw [List.length_set]);(repeat rw [List.length_append]);(repeat rw [List.length_cons]);(repeat rw [List.length_nil]);omega))) | exact g_laS hk ⟨rfl, rfl⟩ (aT rfl) (hs := (by first | exact St.rdT hS (by assumption) | exact OwT.rd (hS.rd (A := OwT _ _ _) atx) | assumption)) (hi := (by first | omega | ((repeat rw [List.length_set]);(repeat rw [List.length_append]);(repeat rw [List.length_cons]);(repeat rw [List.length_nil]);omega))) (hz := zT rfl) | exact g_var1 hk ⟨rfl, rfl⟩ (aT rfl) (hb := (by first | exact St.base hS (by assumption) | assumption)) | exact g_varN hk ⟨rfl, rfl⟩ (aT rfl) (hb := (by first | exact St.base hS (by assumption) | assumption)) (hs := zT rfl) | exact g_ixArr hk ⟨rfl, rfl⟩ (ht := arT rfl) (he := zT rfl) (h0 := by first | decide | omega) (h1 := by first | decide | omega) | exact g_buildA ⟨rfl, rfl⟩ (hT := arT rfl) (he := zT rfl) (hz := oT rfl) | exact g_and7a hk ⟨rfl, rfl⟩ (h0 := by omega) (h1 := by omega) | exact g_and7b hk ⟨rfl, rfl⟩ (h0 := by omega) | exact g_and8a hk ⟨rfl, rfl⟩ (h0 := by omega) (h1 := by omega) | exact g_and8b hk ⟨rfl, rfl⟩ (h0 := by omega) | exact g_convU hk ⟨rfl, rfl⟩ (ht := iT rfl) (hs := iT rfl) (h0 := by omega) (h1 := by omega) | exact g_convS hk ⟨rfl, rfl⟩ (ht := iT rfl) (hs := iT rfl) (h0 := by omega) (h1 := by omega) | exact g_shr1 hk ⟨rfl, rfl⟩ (hm := by decide) | fail) : wpListIn (FR rr) 0 Tryz.prog ops Q (⟨some d, o, ty, pos, af, g⟩ :: rest) a w :=
 sg hk (he.mono fun v' w' h => by obtain ⟨rfl, rfl⟩ := h;exact k) hg hd
theorem st_skip (hk : Kn df n a l) (h : ∀ a', Kn df n a' ((d, undef) :: l) → wpListIn (FR rr) 0 Tryz.prog ops Q rest a' w) (hg : gdK ops l g = some false := by rfl) (hd : Nat.blt d n = true := by rfl) :
  wpListIn (FR rr) 0 Tryz.prog ops Q (⟨some d, o, ty, pos, af, g⟩ :: rest) a w := s_skip hk h hg hd
theorem st_lss {x y : Operand} {t t' : TypeId} {kk : IntKind} {p q : Int} (hk : Kn df n a l) (ht : p < q → ∀ a', Kn df n a' ((d, .bool true) :: l) → wpListIn (FR rr) 0 Tryz.prog ops Q rest a' w) (hf : ¬ p < q → ∀ a', Kn df n a' ((d, .bool false) :: l) → wpListIn (FR rr) 0 Tryz.prog ops Q rest a' w)
  (hx : ev l x = some (.int kk p) := by rfl) (hy : ev l y = some (.int kk q) := by rfl) (hg : gdK ops l g = some true := by rfl) (hd : Nat.blt d n = true := by rfl) : wpListIn (FR rr) 0 Tryz.prog ops Q (⟨some d, .binOp .lss t x y t', ty, pos, af, g⟩ :: rest) a w := sg hk (sp_lss hk ht hf hx hy) hg hd
theorem st_leq {x y : Operand} {t t' : TypeId} {kk : IntKind} {p q : Int} (hk : Kn df n a l) (ht : p ≤ q → ∀ a', Kn df n a' ((d, .bool true) :: l) → wpListIn (FR rr) 0 Tryz.prog ops Q rest a' w) (hf : ¬ p ≤ q → ∀ a', Kn df n a' ((d, .bool false) :: l) → wpListIn (FR rr) 0 Tryz.prog ops Q rest a' w)
  (hx : ev l x = some (.int kk p) := by rfl) (hy : ev l y = some (.int kk q) := by rfl) (hg : gdK ops l g = some true := by rfl) (hd : Nat.blt d n = true := by rfl) : wpListIn (FR rr) 0 Tryz.prog ops Q (⟨some d, .binOp .leq t x y t', ty, pos, af, g⟩ :: rest) a w := sg hk (sp_leq hk ht hf hx hy) hg hd
theorem st_gtr {x y : Operand} {t t' : TypeId} {kk : IntKind} {p q : Int} (hk : Kn df n a l) (ht : q < p → ∀ a', Kn df n a' ((d, .bool true) :: l) → wpListIn (FR rr) 0 Tryz.prog ops Q rest a' w) (hf : ¬ q < p → ∀ a', Kn df n a' ((d, .bool false) :: l) → wpListIn (FR rr) 0 Tryz.prog ops Q rest a' w)
  (hx : ev l x = some (.int kk p) := by rfl) (hy : ev l y = some (.int kk q) := by rfl) (hg : gdK ops l g = some true := by rfl) (hd : Nat.blt d n = true := by rfl) : wpListIn (FR rr) 0 Tryz.prog ops Q (⟨some d, .binOp .gtr t x y t', ty, pos, af, g⟩ :: rest) a w := sg hk (sp_gtr hk ht hf hx hy) hg hd
theorem st_geq {x y : Operand} {t t' : TypeId} {kk : IntKind} {p q : Int} (hk : Kn df n a l) (ht : q ≤ p → ∀ a', Kn df n a' ((d, .bool true) :: l) → wpListIn (FR rr) 0 Tryz.prog ops Q rest a' w) (hf : ¬ q ≤ p → ∀ a', Kn df n a' ((d, .bool false) :: l) → wpListIn (FR rr) 0 Tryz.prog ops Q rest a' w)
  (hx : ev l x = some (.int kk p) := by rfl) (hy : ev l y = some (.int kk q) := by rfl) (hg : gdK ops l g = some true := by rfl) (hd : Nat.blt d n = true := by rfl) : wpListIn (FR rr) 0 Tryz.prog ops Q (⟨some d, .binOp .geq t x y t', ty, pos, af, g⟩ :: rest) a w := sg hk (sp_geq hk ht hf hx hy) hg hd
theorem st_eqi {x y : Operand} {t t' : TypeId} {kk : IntKind} {p q : Int} (hk : Kn df n a l) (ht : p = q → ∀ a', Kn df n a' ((d, .bool true) :: l) → wpListIn (FR rr) 0 Tryz.prog ops Q rest a' w) (hf : ¬ p = q → ∀ a', Kn df n a' ((d, .bool false) :: l) → wpListIn (FR rr) 0 Tryz.prog ops Q rest a' w)
  (hx : ev l x = some (.int kk p) := by rfl) (hy : ev l y = some (.int kk q) := by rfl) (hg : gdK ops l g = some true := by rfl) (hd : Nat.blt d n = true := by rfl) : wpListIn (FR rr) 0 Tryz.prog ops Q (⟨some d, .binOp .eql t x y t', ty, pos, af, g⟩ :: rest) a w := sg hk (sp_eqi hk ht hf hx hy) hg hd
theorem st_nei {x y : Operand} {t t' : TypeId} {kk : IntKind} {p q : Int} (hk : Kn df n a l) (ht : p = q → ∀ a', Kn df n a' ((d, .bool false) :: l) → wpListIn (FR rr) 0 Tryz.prog ops Q rest a' w) (hf : ¬ p = q → ∀ a', Kn df n a' ((d, .bool true) :: l) → wpListIn (FR rr) 0 Tryz.prog ops Q rest a' w)
  (hx : ev l x = some (.int kk p) := by rfl) (hy : ev l y = some (.int kk q) := by rfl) (hg : gdK ops l g = some true := by rfl) (hd : Nat.blt d n = true := by rfl) : wpListIn (FR rr) 0 Tryz.prog ops Q (⟨some d, .binOp .neq t x y t', ty, pos, af, g⟩ :: rest) a w := sg hk (sp_nei hk ht hf hx hy) hg hd
theorem st_eqS {x y : Operand} {t t' : TypeId} {p q : ByteArray} (hk : Kn df n a l) (ht : p = q → ∀ a', Kn df n a' ((d, .bool true) :: l) → wpListIn (FR rr) 0 Tryz.prog ops Q rest a' w) (hf : ¬ p = q → ∀ a', Kn df n a' ((d, .bool false) :: l) → wpListIn (FR rr) 0 Tryz.prog ops Q rest a' w)
  (hx : ev l x = some (.string p) := by rfl) (hy : ev l y = some (.string q) := by rfl) (hg : gdK ops l g = some true := by rfl) (hd : Nat.blt d n = true := by rfl) : wpListIn (FR rr) 0 Tryz.prog ops Q (⟨some d, .binOp .eql t x y t', ty, pos, af, g⟩ :: rest) a w := sg hk (sp_eqS hk ht hf hx hy) hg hd
theorem st_eqs {x y : Operand} {t t' : TypeId} {ks : List SK} {us vs : List Value} (hk : Kn df n a l) (ht : eqC us vs = true → ∀ a', Kn df n a' ((d, .bool true) :: l) → wpListIn (FR rr) 0 Tryz.prog ops Q rest a' w) (hf : eqC us vs = false → ∀ a', Kn df n a' ((d, .bool false) :: l) → wpListIn (FR rr) 0 Tryz.prog ops Q rest a' w)
  (hT : ksOf t = some ks := by rfl) (ha : tyAgg[t]? = some (some true) := by rfl)
  (hx : ev l x = some (.agg us.toArray) := by rfl) (hy : ev l y = some (.agg vs.toArray) := by rfl) (h1 : shp ks us = true := by rfl) (h2 : shp ks vs = true := by rfl) (hg : gdK ops l g = some true := by rfl) (hd : Nat.blt d n = true := by rfl) : wpListIn (FR rr) 0 Tryz.prog ops Q (⟨some d, .binOp .eql t x y t', ty, pos, af, g⟩ :: rest) a w := sg hk (sp_eqs hk ht hf (kT hT) (aT ha) (gT hT) hx hy h1 h2) hg hd
theorem st_nes {x y : Operand} {t t' : TypeId} {ks : List SK} {us vs : List Value} (hk : Kn df n a l) (ht : eqC us vs = true → ∀ a', Kn df n a' ((d, .bool false) :: l) → wpListIn (FR rr) 0 Tryz.prog ops Q rest a' w) (hf : eqC us vs = false → ∀ a', Kn df n a' ((d, .bool true) :: l) → wpListIn (FR rr) 0 Tryz.prog ops Q rest a' w)
  (hT : ksOf t = some ks := by rfl) (ha : tyAgg[t]? = some (some true) := by rfl)
  (hx : ev l x = some (.agg us.toArray) := by rfl) (hy : ev l y = some (.agg vs.toArray) := by rfl) (h1 : shp ks us = true := by rfl) (h2 : shp ks vs = true := by rfl) (hg : gdK ops l g = some true := by rfl) (hd : Nat.blt d n = true := by rfl) : wpListIn (FR rr) 0 Tryz.prog ops Q (⟨some d, .binOp .neq t x y t', ty, pos, af, g⟩ :: rest) a w := sg hk (sp_nes hk ht hf (kT hT) (aT ha) (gT hT) hx hy h1 h2) hg hd
theorem st_cmpS {x y : Operand} {t t' : TypeId} {op : BinOp} {p q : ByteArray} {b : Bool} (hk : Kn df n a l) (ht : b = true → ∀ a', Kn df n a' ((d, .bool true) :: l) → wpListIn (FR rr) 0 Tryz.prog ops Q rest a' w) (hf : b = false → ∀ a', Kn df n a' ((d, .bool false) :: l) → wpListIn (FR rr) 0 Tryz.prog ops Q rest a' w)
  (hx : ev l x = some (.string p) := by rfl) (hy : ev l y = some (.string q) := by rfl) (ho : cmpS op p q = some b := by rfl) (hg : gdK ops l g = some true := by rfl) (hd : Nat.blt d n = true := by rfl) : wpListIn (FR rr) 0 Tryz.prog ops Q (⟨some d, .binOp op t x y t', ty, pos, af, g⟩ :: rest) a w := by
 cases b with
 | true => exact sg hk (g_cmpS hk (ht rfl) hx hy ho) hg hd
 | false => exact sg hk (g_cmpS hk (hf rfl) hx hy ho) hg hd
theorem st_box {x : Operand} {T : TypeId} {v : Value} {vs : List Value} (hk : Kn df n a l) (hS : St w0 L w)
  (k : ∀ w' b, St w0 (pts b vs T :: L) w' → ∀ a', Kn df n a' ((d, .pointer (some ⟨b, 0, none⟩)) :: l) → wpListIn (FR rr) 0 Tryz.prog ops Q rest a' w')
  (hx : ev l x = some v := by rfl) (hv : v.cells = vs.toArray := by rfl) (hg : gdK ops l g = some true := by rfl) (hd : Nat.blt d n = true := by rfl) : wpListIn (FR rr) 0 Tryz.prog ops Q (⟨some d, .box T x, ty, pos, af, g⟩ :: rest) a w := sg hk (g_box hk hS k hx hv) hg hd
theorem st_alloc {T : TypeId} {v : Value} {vs : List Value} (hk : Kn df n a l) (hS : St w0 L w)
  (k : ∀ w' b, St w0 (pts b vs T :: L) w' → ∀ a', Kn df n a' ((d, .pointer (some ⟨b, 0, none⟩)) :: l) → wpListIn (FR rr) 0 Tryz.prog ops Q rest a' w')
  (hz : tyZ[T]? = some (some v) := by rfl) (hv : v.cells = vs.toArray := by rfl) (hg : gdK ops l g = some true := by rfl) (hd : Nat.blt d n = true := by rfl) : wpListIn (FR rr) 0 Tryz.prog ops Q (⟨some d, .alloc T, ty, pos, af, g⟩ :: rest) a w := sg hk (g_alloc hk hS k (oT hz) hv) hg hd
theorem st_store {x y : Operand} {T : TypeId} {b o : Nat} {v : Value} {vs us vs' : List Value} {T' : TypeId} (hk : Kn df n a l) (hS : St w0 L w)
  (k : ∀ w', St w0 (pts b vs' T' :: L') w' → ∀ a', Kn df n a' l → wpListIn (FR rr) 0 Tryz.prog ops Q rest a' w')
  (hx : ev l x = some (.pointer (some ⟨b, o, none⟩)) := by rfl) (hy : ev l y = some v := by rfl) (hv : v.cells = us.toArray := by rfl)
  (hat : At (pts b vs T') L L' := by (repeat (first | exact At.here | apply At.there)))
  (hsz : tySz[T]? = some (some us.length) := by rfl)
  (hone : us.all (·.oneCell') = true := by rfl) (hl : Nat.ble (o + us.length) vs.length = true := by rfl) (hsp : splice vs o us = vs' := by first | (simp only [splice, List.set_cons_zero, List.set_cons_succ, Enc.f, Hd.v, List.cons_append, List.nil_append, List.append_nil, Nat.zero_add, Nat.reduceAdd];rfl) | rfl) (hg : gdK ops l g = some true := by rfl) : wpListIn (FR rr) 0 Tryz.prog ops Q (⟨none, .store T x y, ty, pos, af, g⟩ :: rest) a w :=
 su hk (g_store hk hS k hx hy hv (zT hsz) hat hone hl hsp) hg
theorem st_bs1I {T E : Nat} {q : List (Nat × Operand)} {z : Value} {m : Int} (hk : Kn df n a l) (hS : St w0 L w) (k : ∀ w' v, St w0 (OwT E [m] v :: L) w' → ∀ a', Kn df n a' ((d, v) :: l) → wpListIn (FR rr) 0 Tryz.prog ops Q rest a' w')
  (hp : evP l q = some [(0, .int .i64 m)] := by rfl) (hT : tyEl[T]? = some (some E) := by rfl) (hE : tySz[E]? = some (some 1) := by rfl) (hz : tyZ[E]? = some (some z) := by rfl) (hg : gdK ops l g = some true := by rfl) (hd : Nat.blt d n = true := by rfl) :
  wpListIn (FR rr) 0 Tryz.prog ops Q (⟨some d, .buildSlice T 1 q.toArray, ty, pos, af, g⟩ :: rest) a w := sg hk (g_bs1I hk hS k hp (eT hT) (zT hE) (oT hz)) hg hd
theorem st_bs1S {T E : Nat} {q : List (Nat × Operand)} {z : Value} {m : ByteArray} (hk : Kn df n a l) (hS : St w0 L w) (k : ∀ w' v, St w0 (OwT E [m] v :: L) w' → ∀ a', Kn df n a' ((d, v) :: l) → wpListIn (FR rr) 0 Tryz.prog ops Q rest a' w')
  (hp : evP l q = some [(0, .string m)] := by rfl) (hT : tyEl[T]? = some (some E) := by rfl) (hE : tySz[E]? = some (some 1) := by rfl) (hz : tyZ[E]? = some (some z) := by rfl) (hg : gdK ops l g = some true := by rfl) (hd : Nat.blt d n = true := by rfl) :
  wpListIn (FR rr) 0 Tryz.prog ops Q (⟨some d, .buildSlice T 1 q.toArray, ty, pos, af, g⟩ :: rest) a w := sg hk (g_bs1S hk hS k hp (eT hT) (zT hE) (oT hz)) hg hd
theorem st_app1 {α : Type} [Enc α] {x y : Operand} {t tx : TypeId} {E E' : Nat} {v y0 z : Value} {xs : List α} {e : α} {L'' : List HP} (hk : Kn df n a l) (hS : St w0 L w)
  (k : ∀ w' v', St w0 (OwT E (xs ++ [e]) v' :: L'') w' → ∀ a', Kn df n a' ((d, v') :: l) → wpListIn (FR rr) 0 Tryz.prog ops Q rest a' w')
  (hx : ev l x = some v := by rfl) (hy : ev l y = some y0 := by rfl)
  (hat : At (OwT E xs v) L L' := by (repeat (first | exact At.here | apply At.there)))
  (hT : tyEl[t]? = some (some E) := by rfl) (hTx : tyEl[tx]? = some (some E') := by rfl)
  (hat2 : At (OwT E' [e] y0) L' L'' := by (repeat (first | exact At.here | apply At.there)))
  (hE : tySz[E]? = some (some (Enc.k α + 1)) := by rfl) (hz : tyZ[E]? = some (some z) := by rfl) (hzs : z.cells.size = Enc.k α + 1 := by rfl) {by_ : Nat} (hby : tyBy[E]? = some by_ := by rfl) (hbytes : (xs.length + 1) * by_ ≤ 140737488355328 := by exact (by first | omega | ((repeat rw [List.length_set]);(repeat rw [List.length_append]);(repeat rw [List.length_cons]);(repeat rw [List.length_nil]);omega))) (h63 : xs.length + 1 ≤ 9223372036854775807 := by exact (by first | omega | ((repeat rw [List.length_set]);(repeat rw [List.length_append]);(repeat rw [List.length_cons]);(repeat rw [List.length_nil]);omega))) (hg : gdK ops l g = some true := by rfl) (hd : Nat.blt d n = true := by rfl) :
  wpListIn (FR rr) 0 Tryz.prog ops Q (⟨some d, .call { callee := .builtin .append, args := #[x, y], argTypes := #[t, tx] }, ty, pos, af, g⟩ :: rest) a w :=
 sg hk (g_app1 hk hS k hx hy hat (eT hT) (eT hTx) hat2 (zT hE) (oT hz) hzs (bT hby) hbytes h63) hg hd
theorem st_appE {α : Type} [Enc α] {x y : Operand} {t tx : TypeId} {E E' : Nat} {v y0 z : Value} {xs ys : List α} {L'' : List HP} (hk : Kn df n a l) (hS : St w0 L w)
  (k : ∀ w' v', St w0 (OwT E (xs ++ ys) v' :: L'') w' → ∀ a', Kn df n a' ((d, v') :: l) → wpListIn (FR rr) 0 Tryz.prog ops Q rest a' w')
  (hx : ev l x = some v := by rfl) (hy : ev l y = some y0 := by rfl)
  (hat : At (OwT E xs v) L L' := by (repeat (first | exact At.here | apply At.there)))
  (hT : tyEl[t]? = some (some E) := by rfl) (hTx : tyEl[tx]? = some (some E') := by rfl)
  (hat2 : At (OwT E' ys y0) L' L'' := by (repeat (first | exact At.here | apply At.there)))
  (hE : tySz[E]? = some (some (Enc.k α + 1)) := by rfl) (hz : tyZ[E]? = some (some z) := by rfl) (hzs : z.cells.size = Enc.k α + 1 := by rfl) {by_ : Nat} (hby : tyBy[E]? = some by_ := by rfl) (hbytes : (xs.length + ys.length) * by_ ≤ 140737488355328 := by exact (by first | omega | ((repeat rw [List.length_set]);(repeat rw [List.length_append]);(repeat rw [List.length_cons]);(repeat rw [List.length_nil]);omega))) (h63 : xs.length + ys.length ≤ 9223372036854775807 := by exact (by first | omega | ((repeat rw [List.length_set]);(repeat rw [List.length_append]);(repeat rw [List.length_cons]);(repeat rw [List.length_nil]);omega))) (hg : gdK ops l g = some true := by rfl) (hd : Nat.blt d n = true := by rfl) :
  wpListIn (FR rr) 0 Tryz.prog ops Q (⟨some d, .call { callee := .builtin .append, args := #[x, y], argTypes := #[t, tx] }, ty, pos, af, g⟩ :: rest) a w :=
 sg hk (g_appE hk hS k hx hy hat (eT hT) (eT hTx) hat2 (zT hE) (oT hz) hzs (bT hby) hbytes h63) hg hd
end
section
variable {n : Nat} {l : List (Nat × Value)} {w0 : Bs} {L : List HP} {os : List Oper} {i : Nat} {o : Oper} {r : List Oper} {acc : List (Nat × Nat × HV)} {HR : List (Nat × ((Nat → Value) → Value → HP))} {FinE : List (Nat × Nat × HV) → List (Nat × ((Nat → Value) → Value → HP)) → List HP → Prop} {TK : List HP}
theorem ob_v {c : Value} (hr : ObxE df Tryz.prog n os l w0 L FinE (i + 1) r (pushE o.dst i (.val c) acc) HR TK)
  (hg : ∀ us, gdK os.toArray (vwE acc l us (o.looksAt os.toArray)) o.guard = some true := by intro us;rfl)
  (h : ∀ (us : Nat → Value) (a : Act) (w : World), Kn df n a (vwE acc l us (o.looksAt os.toArray)) → depE acc us w (o.looksAt os.toArray) → St w0 L w → Gives Tryz.prog o a w (fun v w' => v = c ∧ St w [] w') := by intro us a w hk hd hS;have hk := Kn.vw hk vwx;first | exact g_move hk (same _ _) | exact g_assign hk (same _ _) | exact g_field hk (same _ _) (fT rfl) | exact g_leqT hk (same _ _) (hpq := by first | assumption | omega) | exact g_leqF hk (same _ _) (hpq := by first | assumption | omega) | exact g_lssT hk (same _ _) (hpq := by first | assumption | omega) | exact g_lssF hk (same _ _) (hpq := by first | assumption | omega) | exact g_geqT hk (same _ _) (hpq := by first | assumption | omega) | exact g_geqF hk (same _ _) (hpq := by first | assumption | omega) | exact g_gtrT hk (same _ _) (hpq := by first | assumption | omega) | exact g_gtrF hk (same _ _) (hpq := by first | assumption | omega) | exact g_eqiT hk (same _ _) | exact g_eqiE hk (same _ _) (hpq := by first | assumption | omega) | exact g_eqiF hk (same _ _) (hpq := by first | assumption | omega) | exact g_neiT hk (same _ _) (hpq := by first | assumption | omega) | exact g_neiF hk (same _ _) (hpq := by first | assumption | omega) | exact g_eqbT hk (same _ _) Tryz.underlying4 | exact g_eqST hk (same _ _) (hpq := by first | rfl | assumption) | exact g_eqSF hk (same _ _) (hpq := by assumption) | exact g_neST hk (same _ _) (hpq := by assumption) | exact g_neSF hk (same _ _) (hpq := by first | rfl | assumption) | exact g_build hk (same _ _) (fsT rfl) (oT rfl) | exact g_pick_t hk (same _ _) | exact g_pick_f hk (same _ _) | exact g_add hk (same _ _) (hlo := by omega) (hhi := by omega) | exact g_sub hk (same _ _) (hlo := by omega) (hhi := by omega) | exact g_eqb hk (same _ _) Tryz.underlying4 | exact g_neb hk (same _ _) Tryz.underlying4 | exact g_not hk (same _ _) | exact g_min hk (same _ _) | exact g_max hk (same _ _) | exact g_ex0 hk (same _ _) | exact g_ex1 hk (same _ _) | exact g_extract hk (same _ _) | exact g_nilc hk (same _ _) | exact g_own1 hk hS (same _ _) (aT rfl) | exact g_ownN hk hS (same _ _) (aT rfl) (zT rfl) | exact g_lenT hk (same _ _) (ht := eT rfl) (hs := (by first | exact St.rdT hS (by assumption) | exact OwT.rd (hS.rd (A := OwT _ _ _) atx) | assumption)) | exact g_lenSt hk (same _ _) (sT rfl) | exact g_ixT hk (same _ _) (ht := eT rfl) (hs := (by first | exact St.rdT hS (by assumption) | exact OwT.rd (hS.rd (A := OwT _ _ _) atx) | assumption)) (hi := (by first | assumption | exact lt_of_get (by assumption) | omega | ((repeat rw [List.length_set]);(repeat rw [List.length_append]);(repeat rw [List.length_cons]);(repeat rw [List.length_nil]);omega))) (hE := zT rfl) | exact g_ixTi hk (same _ _) (ht := eT rfl) (hs := (by first | exact St.rdT hS (by assumption) | exact OwT.rd (hS.rd (A := OwT _ _ _) atx) | assumption)) (h0 := by omega) (hi := (by first | omega | ((repeat rw [List.length_set]);(repeat rw [List.length_append]);(repeat rw [List.length_cons]);(repeat rw [List.length_nil]);omega))) (hE := zT rfl) | exact g_ldT1 hk (same _ _) (aT rfl) (hs := (by first | exact St.rdT hS (by assumption) | exact OwT.rd (hS.rd (A := OwT _ _ _) atx) | assumption)) (hi := by assumption) | exact g_ldTF hk (same _ _) (aT rfl) (hs := (by first | exact St.rdT hS (by assumption) | exact OwT.rd (hS.rd (A := OwT _ _ _) atx) | assumption)) (hi := by assumption) | exact g_ldTN hk (same _ _) (aT rfl) (hs := (by first | exact St.rdT hS (by assumption) | exact OwT.rd (hS.rd (A := OwT _ _ _) atx) | assumption)) (hi := by assumption) (hu := (by simp only [Enc.f, List.cons_append, List.nil_append];rfl)) (hz := zT rfl) | exact g_ldTS hk (same _ _) (aT rfl) (hs := (by first | exact St.rdT hS (by assumption) | exact OwT.rd (hS.rd (A := OwT _ _ _) atx) | assumption)) (hi := by assumption) (hz := zT rfl) | exact g_ldT2 hk (same _ _) (aT rfl) (hs := (by first | exact St.rdT hS (by assumption) | exact OwT.rd (hS.rd (A := OwT _ _ _) atx) | assumption)) (hi := by assumption) | exact g_slSt hk (same _ _) (ht := sT rfl) (h0 := by omega) (h1 := by omega) | exact g_slSf hk (same _ _) (ht := sT rfl) (h0 := by omega) (h1 := by omega) | exact g_slS hk (same _ _) (ht := sT rfl) (h0 := by omega) (h1 := by omega) (h2 := by omega) | exact g_ixS0 hk (ht := sT rfl) (h1 := by assumption) (h := (same _ _)) | exact g_ixS hk (ht := sT rfl) (h1 := by assumption) (h := (same _ _)) | exact g_makeFunc hk (same _ _) | exact g_fieldV hk (same _ _) (fvT rfl) | exact g_la1 hk (same _ _) (aT rfl) (hs := (by first | exact St.rdT hS (by assumption) | exact OwT.rd (hS.rd (A := OwT _ _ _) atx) | assumption)) (hi := (by first | omega | ((repeat rw [List.length_set]);(repeat rw [List.length_append]);(repeat rw [List.length_cons]);(repeat rw [List.length_nil]);omega))) | exact g_laF hk (same _ _) (aT rfl) (hs := (by first | exact St.rdT hS (by assumption) | exact OwT.rd (hS.rd (A := OwT _ _ _) atx) | assumption)) (hi := (by first | omega | ((repeat rw [List.length_set]);(repeat rw [List.length_append]);(repeat rw [List.length_cons]);(repeat rw [List.length_nil]);omega))) | exact g_laN hk (same _ _) (aT rfl) (hs := (by first | exact St.rdT hS (by assumption) | exact OwT.rd (hS.rd (A := OwT _ _ _) atx) | assumption)) (hi := (by first | omega | ((repeat rw [List.length_set]);(repeat rw [List.length_append]);(repeat rw [List.length_cons]);(repeat rw [List.length_nil]);omega))) (hu := rfl) (hz := zT rfl) | exact g_la2 hk (same _ _) (aT rfl) (hs := (by first | exact St.rdT hS (by assumption) | exact OwT.rd (hS.rd (A := OwT _ _ _) atx) | assumption)) (hi := (by first | omega | ((repeat rw [List.length_set]);(repeat rw [List.length_append]);(repeat rw [List.length_cons]);(repeat rw [List.length_nil]);omega))) | exact g_laS hk (same _ _) (aT rfl) (hs := (by first | exact St.rdT hS (by assumption) | exact OwT.rd (hS.rd (A := OwT _ _ _) atx) | assumption)) (hi := (by first | omega | ((repeat rw [List.length_set]);(repeat rw [List.length_append]);(repeat rw [List.length_cons]);(repeat rw [List.length_nil]);omega))) (hz := zT rfl) | exact g_var1 hk (same _ _) (aT rfl) (hb := (by first | exact St.base hS (by assumption) | assumption)) | exact g_varN hk (same _ _) (aT rfl) (hb := (by first | exact St.base hS (by assumption) | assumption)) (hs := zT rfl) | exact g_ixArr hk (same _ _) (ht := arT rfl) (he := zT rfl) (h0 := by first | decide | omega) (h1 := by first | decide | omega) | exact g_buildA (same _ _) (hT := arT rfl) (he := zT rfl) (hz := oT rfl) | exact g_and7a hk (same _ _) (h0 := by omega) (h1 := by omega) | exact g_and7b hk (same _ _) (h0 := by omega) | exact g_and8a hk (same _ _) (h0 := by omega) (h1 := by omega) | exact g_and8b hk (same _ _) (h0 := by omega) | exact g_convU hk (same _ _) (ht := iT rfl) (hs := iT rfl) (h0 := by omega) (h1 := by omega) | exact g_convS hk (same _ _) (ht := iT rfl) (hs := iT rfl) (h0 := by omega) (h1 := by omega) | exact g_shr1 hk (same _ _) (hm := by decide) | fail) : ObxE df Tryz.prog n os l w0 L FinE i (o :: r) acc HR TK := obe_val h hr hg
theorem ob_cmpS {b : Bool} (ht : b = true → ObxE df Tryz.prog n os l w0 L FinE (i + 1) r (pushE o.dst i (.val (.bool true)) acc) HR TK) (hf : b = false → ObxE df Tryz.prog n os l w0 L FinE (i + 1) r (pushE o.dst i (.val (.bool false)) acc) HR TK)
  (h : ∀ (us : Nat → Value) (a : Act) (w : World), Kn df n a (vwE acc l us (o.looksAt os.toArray)) → depE acc us w (o.looksAt os.toArray) → St w0 L w → Gives Tryz.prog o a w (fun v w' => v = .bool b ∧ St w [] w') := by intro us a w hk hd hS;have hk := Kn.vw hk vwx;exact g_cmpS hk (same _ _))
  (hg : ∀ us, gdK os.toArray (vwE acc l us (o.looksAt os.toArray)) o.guard = some true := by intro us;rfl) : ObxE df Tryz.prog n os l w0 L FinE i (o :: r) acc HR TK := obe_bool h ht hf hg
end
structure Bx (p : Prop) : Prop where o : p
section
theorem wx0 {G G' : Prop} (h : G') (r : Bx G' → G := by (intro h; (first | refine wpIn_seq ?_ | refine wpIn_block ?_ | refine wpIn_region_lit ?_ | refine q_then ?_ | refine q_thenE ?_ | refine q_thenR ?_ | refine q_inN ?_ | refine q_inR ?_ | refine q_inE ?_ | refine q_inO ?_ | refine wpIn_skip ?_ | refine wpIn_ret ?_ | refine wpIn_exit ?_ | refine c_true hk ?_ | refine c_false hk ?_ | fail); exact h.o)) : G := r ⟨h⟩
theorem wx1 {G' : Prop} {q1 q2 q3 q4 q5 q6 q7 q8 q9} (h : G') (r : Bx G' → Go.wpListIn q1 q2 q3 q4 q5 (q6 :: q7) q8 q9 := by (intro h; (first | refine st hk ?_ | refine st_skip hk ?_ | refine s_skip0 hk ?_ | fail); exact h.o)) : Go.wpListIn q1 q2 q3 q4 q5 (q6 :: q7) q8 q9 := r ⟨h⟩
theorem wx2 {G1 G2 : Prop} {q1 q2 q3 q4 q5 q6 q7 q8 q9} (h1 : G1) (h2 : G2) (r : Bx G1 → Bx G2 → Go.wpListIn q1 q2 q3 q4 q5 (q6 :: q7) q8 q9 := by (intro h1 h2; (first | refine st_lss hk ?_ ?_ | refine st_leq hk ?_ ?_ | refine st_gtr hk ?_ ?_ | refine st_geq hk ?_ ?_ | refine st_eqi hk ?_ ?_ | refine st_nei hk ?_ ?_ | refine st_eqS hk ?_ ?_ | refine st_neS hk ?_ ?_ | refine st_cmpS hk ?_ ?_ | refine st_eqs hk ?_ ?_ | refine st_nes hk ?_ ?_ | fail); (exact h1.o); exact h2.o)) : Go.wpListIn q1 q2 q3 q4 q5 (q6 :: q7) q8 q9 := r ⟨h1⟩ ⟨h2⟩
theorem wx3 {G' : Prop} {q1 q2 q3 q4 q5 q6 q7 q8 q9} (h : G') (r : Bx G' → Go.wpListIn q1 q2 q3 q4 q5 (q6 :: q7) q8 q9 := by (intro h; (first | refine st_box hk hS ?_ | refine st_alloc hk hS ?_ | fail); exact h.o)) : Go.wpListIn q1 q2 q3 q4 q5 (q6 :: q7) q8 q9 := r ⟨h⟩
theorem wx4 {G' : Prop} {q1 q2 q3 q4 q5 q6 q7 q8 q9} (h : G') (r : Bx G' → Go.wpListIn q1 q2 q3 q4 q5 (q6 :: q7) q8 q9 := by (intro h; (first | refine st_store hk hS ?_ | refine st_stI hk hS ?_ | refine st_stB hk hS ?_ | refine st_stS hk hS ?_ | fail); exact h.o)) : Go.wpListIn q1 q2 q3 q4 q5 (q6 :: q7) q8 q9 := r ⟨h⟩
theorem wx5 {G' : Prop} {q1 q2 q3 q4 q5 q6 q7 q8 q9} (h : G') (r : Bx G' → Go.wpListIn q1 q2 q3 q4 q5 (q6 :: q7) q8 q9 := by (intro h; (first | refine st_bs1I hk hS ?_ | refine st_bs1S hk hS ?_ | refine st_app1 hk hS ?_ | refine st_appE hk hS ?_ | fail); exact h.o)) : Go.wpListIn q1 q2 q3 q4 q5 (q6 :: q7) q8 q9 := r ⟨h⟩
theorem wx6 {G' : Prop} {q1 q2 q3 q4 q5 q6 q7 q8 q9} (h : G') (r : Bx G' → Go.wpListIn q1 q2 q3 q4 q5 (q6 :: q7) q8 q9 := by (intro h; (first | refine st_bs1I hk hS ?_ | refine st_bs1S hk hS ?_ | refine st_app1 hk hS ?_ | fail); exact h.o)) : Go.wpListIn q1 q2 q3 q4 q5 (q6 :: q7) q8 q9 := r ⟨h⟩
theorem ox1 {G G' : Prop} (h : G') (r : Bx G' → G := by (intro h; (first | refine ob_v ?_ | refine obe_skip ?_ | fail); exact h.o)) : G := r ⟨h⟩
theorem ox2 {G G1 G2 : Prop} (h1 : G1) (h2 : G2) (r : Bx G1 → Bx G2 → G := by (intro h1 h2; (first | refine ob_lss ?_ ?_ | refine ob_leq ?_ ?_ | refine ob_gtr ?_ ?_ | refine ob_geq ?_ ?_ | refine ob_eqi ?_ ?_ | refine ob_nei ?_ ?_ | refine ob_eqS ?_ ?_ | refine ob_neS ?_ ?_ | refine ob_cmpS ?_ ?_ | refine ob_eqs ?_ ?_ | refine ob_nes ?_ ?_ | fail); (exact h1.o); exact h2.o)) : G := r ⟨h1⟩ ⟨h2⟩
end
end Go.Proofs.YtnjmonkehjlaoaaGreatDoor
namespace Go.Proofs.YtnjmonkehjlaoaaGreatDoor
variable {df : List Deferred}
open Go.RowKit
theorem St.two {B : Bs} {w : World} {L L' L'' : List HP} {b b' : Nat} {vs vs' : List Value} {E E' : TypeId} (h : St B L w) (h1 : At (pts b vs E) L L') (h2 : At (pts b' vs' E') L' L'') : b ≠ b' := by
 obtain ⟨F, _, hS⟩ := h.own
 obtain ⟨F1, F2, _, _, h3, h4, h5⟩ := hS.pull h1
 obtain ⟨G1, G2, g1, _, _, g4, _⟩ := h5.pull h2
 intro e
 subst e
 exact h3 b h4.1 (g1 b g4.1)
section
variable {P : Program} {a : Act} {w w' : World} {w0 : Bs} {n : Nat} {l : List (Nat × Value)} {L L' : List HP}
 {dst : Option Nat} {R : Value → World → Prop} {ty : TypeId} {pos : String} {af : Array Edge} {g : Option (Nat × Bool)}
theorem g_slFc {x y : Operand} {t E k m c b o : Nat} {p : Int} {kk : IntKind} (i : Nat) (hk : Kn df n a l) (h : R (.slice (some ⟨b, o + i * (k + 1), none⟩) (m - i) (c - i)) w)
  (hx : ev l x = some (.slice (some ⟨b, o, none⟩) m c) := by rfl) (hy : ev l y = some (.int kk p) := by rfl) (ht : elOf P t = some E) (hE : szOf P E = some (k + 1)) (hp : p = (i : Int)) (him : i ≤ m) (hc : i < c) :
  Gives P ⟨dst, .slice t x (some y) none none, ty, pos, af, g⟩ a w R := by
 subst hp
 refine givesv (v := .slice (some ⟨b, o + i * (k + 1), none⟩) (m - i) (c - i)) ?_ h
 have h1 : ¬ c = i := by omega
 simp [execOp, hk.eval hx, hk.eval hy, Instr.sliceAt, Instr.slice, run_underlying (elOf_und ht), Instr.sliceBounds, Instr.sliceBound, asIntOf, him, szOf_run hE, h1, addr_add]
theorem g_slTc {x y : Operand} {t E k m c b o : Nat} {p : Int} {kk : IntKind} (j : Nat) (hk : Kn df n a l) (h : R (.slice (some ⟨b, o, none⟩) j c) w)
  (hx : ev l x = some (.slice (some ⟨b, o, none⟩) m c) := by rfl) (hy : ev l y = some (.int kk p) := by rfl) (ht : elOf P t = some E) (hE : szOf P E = some (k + 1)) (hp : p = (j : Int)) (hj : j ≤ c) :
  Gives P ⟨dst, .slice t x none (some y) none, ty, pos, af, g⟩ a w R := by
 subst hp
 refine givesv (v := .slice (some ⟨b, o, none⟩) j c) ?_ h
 have e : (⟨b, o, none⟩ : Addr).add 0 = ⟨b, o, none⟩ := rfl
 by_cases h0 : c = 0
 ·have hj0 : j = 0 := by omega
  subst h0 hj0
  simp [execOp, hk.eval hx, hk.eval hy, Instr.sliceAt, Instr.slice, run_underlying (elOf_und ht), Instr.sliceBounds, Instr.sliceBound, asIntOf, szOf_run hE]
 simp [execOp, hk.eval hx, hk.eval hy, Instr.sliceAt, Instr.slice, run_underlying (elOf_und ht), Instr.sliceBounds, Instr.sliceBound, asIntOf, hj, szOf_run hE, h0, e]
theorem g_capC {x : Operand} {t E m c : Nat} {ao : Option Addr} (hk : Kn df n a l) (h : R (.int .i64 c) w) (hx : ev l x = some (.slice ao m c) := by rfl) (ht : elOf P t = some E) :
  Gives P ⟨dst, .call { callee := .builtin .cap, args := #[x], argTypes := #[t] }, ty, pos, af, g⟩ a w R := by
 refine givesv (v := .int .i64 c) ?_ h
 simp [execOp, resolve, invoke, builtin, hk.eval hx, Builtin.cap_, run_underlying (elOf_und ht), goInt]
theorem g_copyC {x y : Operand} {t tx E k b o dn dc sb so sn sc q : Nat} {vs cs : List Value} {E' : TypeId} (hk : Kn df n a l) (hS : St w0 L w)
  (h : ∀ w', St w0 (pts b (splice vs o cs) E' :: L') w' → R (.int .i64 (q : Int)) w')
  (hx : ev l x = some (.slice (some ⟨b, o, none⟩) dn dc) := by rfl) (hy : ev l y = some (.slice (some ⟨sb, so, none⟩) sn sc) := by rfl)
  (hat : At (pts b vs E') L L' := by (repeat (first | exact At.here | apply At.there))) (ht : elOf P t = some E) (hE : szOf P E = some (k + 1)) (hq : q = Nat.min sn dn) (hl : cs.length = q * (k + 1))
  (hsrc : Cells sb so cs w) (h1 : ∀ u ∈ cs, u.oneCell' = true) (hfit : o + cs.length ≤ vs.length) :
  Gives P ⟨dst, .call { callee := .builtin .copy, args := #[x, y], argTypes := #[t, tx] }, ty, pos, af, g⟩ a w R := by
 obtain ⟨w', hr, hS'⟩ := run_storeCells_own (P := P) cs o 0 vs w hS hat h1 (by simpa using hfit)
 simp only [Nat.add_zero] at hS'
 refine givesv (v := .int .i64 (q : Int)) (w' := w') ?_ (h w' hS')
 have hf := run_firstCells_some (P := P) (w := w) (k + 1) q ⟨sb, so, none⟩ sn sc cs hl (fun j v hj => by rw [addr_add];exact hsrc j v hj)
 simp [execOp, resolve, invoke, builtin, hk.eval hx, hk.eval hy, Builtin.copy_, run_underlying (elOf_und ht), Builtin.lenOf, szOf_run hE, ← hq, hf, hr, goInt]
theorem g_appZ {x y : Operand} {t tx E k b o i c q by_ : Nat} {z : Value} {cs : List Value} {kn : IntKind} (hk : Kn df n a l) (hS : St w0 L w)
  (h : ∀ (w' : World) (b' c' : Nat) (us : List Value), i + q ≤ c' → c' ≤ maxLen → us.length = c' * (k + 1) → (∀ (j : Nat) (u : Value), cs[j]? = some u → us[j]? = some u) → (∀ u ∈ us, u.oneCell' = true) → St w0 (pts b' us E :: L) w' → R (.slice (some ⟨b', 0, none⟩) (i + q) c') w')
  (hx : ev l x = some (.slice (some ⟨b, o, none⟩) i c) := by rfl) {p : Int} (hy : ev l y = some (.int .i64 p) := by rfl) (hp : p = (q : Int)) (ht : elOf P t = some E) (htx : P.underlying tx = some (.int kn)) (hE : szOf P E = some (k + 1)) (hz : zeroOf P E = some z) (hzs : z.cells.size = k + 1) (hz1 : ∀ u ∈ z.cells.toList, u.oneCell' = true)
  (hby : ((P.info? E).map (·.bytes)).getD 0 = by_) (h0 : 0 < q) (hc : c < i + q) (hl : cs.length = i * (k + 1)) (hcs : Cells b o cs w) (h1 : ∀ u ∈ cs, u.oneCell' = true) (hbytes : (i + q) * by_ ≤ 140737488355328) (h63 : i + q ≤ maxLen) :
  Gives P ⟨dst, .call { callee := .builtin .append, args := #[x, y], argTypes := #[t, tx] }, ty, pos, af, g⟩ a w R := by
 subst hp
 obtain ⟨inf, hi, his, hiz⟩ := byOf_info hE hz
 have hib : inf.bytes = by_ := by rw [hi] at hby;exact hby
 have hold : (Builtin.firstCells inf.size i (.slice (some ⟨b, o, none⟩) i c)).run P w.drew = .ok cs.toArray w.drew := by
  rw [his]
  exact run_firstCells_some w.drew (k + 1) i ⟨b, o, none⟩ i c cs hl (fun j v hj => by rw [addr_add];exact hcs j v hj)
 have hqb : q * inf.bytes ≤ 281474976710656 := by
  rw [hib]
  have : q * by_ ≤ (i + q) * by_ := Nat.mul_le_mul_right _ (by omega)
  omega
 have hr := Lib.run_append_grow_zeros (P := P) w t tx ty E inf z .i64 kn (elOf_und ht) htx hi hiz (some ⟨b, o, none⟩) i c cs hold q h0 (by omega) hc (by simp only [maxLen] at h63;omega) hqb (growslice_fits hc (by rw [hib];exact hbytes))
 have hge := grownCap_ge w (i + q) c E
 have hcm := grownCap_le_maxLen w (i + q) c E h63
 generalize grownCap w (i + q) c E = gc at *
 have hal := hS.drew.alloc (cs ++ (Builtin.zeroCells z.cells q).toList ++ (Builtin.zeroCells z.cells (gc - (i + q))).toList) E
 have hww : (w.drew.alloc (.cells (cs ++ (Builtin.zeroCells z.cells q).toList ++ (Builtin.zeroCells z.cells (gc - (i + q))).toList).toArray E)) = w.drew.alloc (.cells (cs.toArray ++ Builtin.zeroCells z.cells q ++ Builtin.zeroCells z.cells (gc - (i + q))) E) := by
  congr 2
  apply Array.ext'
  simp
 rw [hww] at hal
 have hz2 : ∀ m u, u ∈ (Builtin.zeroCells z.cells m).toList → u.oneCell' = true := by
  intro m u hu
  simp only [Builtin.zeroCells] at hu
  simp at hu
  obtain ⟨q, hq, rfl⟩ := hu
  have hlt : q % z.cells.size < z.cells.size := Nat.mod_lt _ (by rw [hzs];omega)
  rw [getElem!_pos z.cells _ hlt]
  exact hz1 _ (by simp)
 refine givesv (v := .slice (some ⟨w.heap.size, 0, none⟩) (i + q) gc) (w' := _) ?_ (h _ _ gc _ hge hcm ?_ (fun j u hj => ?_) (fun u hu => ?_) hal)
 ·simp [execOp, resolve, invoke, builtin, hk.eval hx, hk.eval hy, hr]
 ·rw [List.length_append, List.length_append, hl, Array.length_toList, Array.length_toList, size_zeroCells, size_zeroCells, hzs, ← Nat.add_mul, ← Nat.add_mul]
  congr 1
  omega
 ·have hlt : j < cs.length := by
   rcases Nat.lt_or_ge j cs.length with h' | h'
   ·exact h'
   ·rw [List.getElem?_eq_none h'] at hj;cases hj
  rw [List.append_assoc, List.getElem?_append_left hlt]
  exact hj
 ·rw [List.mem_append, List.mem_append] at hu
  rcases hu with (hu | hu) | hu
  ·exact h1 u hu
  ·exact hz2 _ u hu
  ·exact hz2 _ u hu
theorem g_ovl {x y : Operand} {f : FuncId} {fn : Func} {ts : Array TypeId} {tS tR E k b o m c b' o' m' c' : Nat} {vs vs' : List Value} {E1 E2 : TypeId} {L'' : List HP} (hk : Kn df n a l) (hS : St w0 L w) (h : R (.bool false) w)
  (hf : P.funcs[f]? = some fn) (hname : (fn.name == "runtime.NumGoroutine") = false) (hb : fn.body.isNone = true) (hn : Extern.findNext fn = none) (he : Extern.find fn = some (Extern.SlicesOverlaps.overlaps #[tS, tS] #[tR]))
  (hx : ev l x = some (.slice (some ⟨b, o, none⟩) m c) := by rfl) (hy : ev l y = some (.slice (some ⟨b', o', none⟩) m' c') := by rfl)
  (hat : At (pts b vs E1) L L' := by (repeat (first | exact At.here | apply At.there))) (hat2 : At (pts b' vs' E2) L' L'' := by (repeat (first | exact At.here | apply At.there)))
  (ht : elOf P tS = some E) (hE : szOf P E = some (k + 1)) (hne : vs' ≠ []) :
  Gives P ⟨dst, .call { callee := .value (.func f), args := #[x, y], argTypes := ts }, ty, pos, af, g⟩ a w R := by
 have hb1 := pts.block (hS.rd hat)
 have hb2 := pts.block ((hS.sub hat.rest).rd hat2)
 have hbb := hS.two hat hat2
 have hl' : vs'.toArray.size ≠ 0 := by
  rw [List.size_toArray]
  intro e
  exact hne (List.eq_nil_of_length_eq_zero e)
 have hr := Lib.run_overlaps_apart (P := P) w tS tR E (elOf_und ht) (k + 1) (szOf_run hE) ⟨b, o, none⟩ ⟨b', o', none⟩ m c m' c' hbb E1 E2 vs.toArray.size vs'.toArray.size (by simp [World.shape?, hb1]) (by simp [World.shape?, hb2]) hl' (by simp [World.frozen?, hb1]) (by simp [World.frozen?, hb1])
 refine givesv (v := .bool false) ?_ h
 have e : (execOp a.eval ⟨dst, .call { callee := .value (.func f), args := #[x, y], argTypes := ts }, ty, pos, af, g⟩) = callFunc f #[.slice (some ⟨b, o, none⟩) m c, .slice (some ⟨b', o', none⟩) m' c'] := by
  have e1 : (#[] ++ (#[x, y] : Array Operand).map a.eval ++ #[] : Array Value) = #[.slice (some ⟨b, o, none⟩) m c, .slice (some ⟨b', o', none⟩) m' c'] := by simp [hk.eval hx, hk.eval hy]
  rw [← e1]
  rfl
 rw [e, run_callFunc_extern hf hname hb hn he, hr]
 rfl
end
section
variable {α : Type}
def insF (xs : List α) (i : Nat) (e : α) : List α := xs.take i ++ e :: xs.drop i
theorem insF_len {xs : List α} {i : Nat} {e : α} (h : i ≤ xs.length) : (insF xs i e).length = xs.length + 1 := by
 unfold insF
 rw [List.length_append, List.length_take, List.length_cons, List.length_drop]
 omega
variable [Enc α]
theorem enc_ins (xs : List α) (i : Nat) (e : α) (hi : i ≤ xs.length) (j : Nat) : (enc (insF xs i e))[j]? =
  if j < i * (Enc.k α + 1) then (enc xs)[j]? else if j < (i + 1) * (Enc.k α + 1) then (Enc.f e)[j - i * (Enc.k α + 1)]? else (enc xs)[j - (Enc.k α + 1)]? := by
 have hl : (enc (xs.take i)).length = i * (Enc.k α + 1) := by rw [enc_len, List.length_take, Nat.min_eq_left hi]
 unfold insF
 rw [enc_append, enc_cons]
 by_cases h1 : j < i * (Enc.k α + 1)
 ·rw [if_pos h1, List.getElem?_append_left (by rw [hl];exact h1), ← enc_take, List.getElem?_take, if_pos h1]
 ·rw [if_neg h1, List.getElem?_append_right (by rw [hl];omega), hl]
  by_cases h2 : j < (i + 1) * (Enc.k α + 1)
  ·rw [if_pos h2, List.getElem?_append_left (by rw [Enc.len];rw [Nat.add_mul] at h2;omega)]
  ·rw [if_neg h2]
   rw [Nat.add_mul] at h2
   rw [List.getElem?_append_right (by rw [Enc.len];omega), Enc.len, ← enc_drop, List.getElem?_drop]
   congr 1
   omega
theorem St.toOwn {B : Bs} {w : World} {L L' : List HP} {b off cap : Nat} {vs : List Value} {E : TypeId} {ys : List α} (h : St B L w) (hat : At (pts b vs E) L L') (hn : ys.length ≤ cap) (hcm : cap ≤ maxLen) (hvl : off + cap * (Enc.k α + 1) ≤ vs.length)
  (hc : ∀ j u, (enc ys)[j]? = some u → vs[off + j]? = some u) : St B (OwT E ys (.slice (some ⟨b, off, none⟩) ys.length cap) :: L') w :=
 h.conv (As := [_]) hat (fun F hF => ⟨F, fun _ h => h, Sep.one ⟨by rw [enc_len], Nat.le_trans hn hcm, .inr ⟨b, off, cap, _, rfl, hF.1, hF.2.1, hF.2.2, hn, hcm, by simpa using hvl, fun j u hj => by simpa using hc j u hj⟩, fun c hc => (pts _ _ E).dom F _ c hF hc⟩⟩)
theorem enc_get_lt {xs : List α} {j : Nat} {u : Value} (h : (enc xs)[j]? = some u) : j < xs.length * (Enc.k α + 1) := by
 rw [← enc_len]
 rcases Nat.lt_or_ge j (enc xs).length with h' | h'
 ·exact h'
 ·rw [List.getElem?_eq_none h'] at h;cases h
theorem enc_single (e : α) : enc [e] = Enc.f e := by simp [enc]
theorem Cells.dropT {xs : List α} {vs : List Value} {b off : Nat} {E : TypeId} {w : World} (i : Nat) (hb : w.heap[b]? = some (.cells vs.toArray E (0, 0))) (hvs : ∀ (j : Nat) (u : Value), (enc xs)[j]? = some u → vs[off + j]? = some u) : Cells b (off + i * (Enc.k α + 1)) (enc (xs.drop i)) w := fun j u hj => by
 rw [cell_of_row w b _ _ E _ hb, List.getElem?_toArray, Nat.add_assoc]
 exact hvs _ u (by rw [← List.getElem?_drop, enc_drop];exact hj)
theorem Cells.takeT {xs : List α} {vs : List Value} {b off : Nat} {E : TypeId} {w : World} (i : Nat) (hb : w.heap[b]? = some (.cells vs.toArray E (0, 0))) (hvs : ∀ (j : Nat) (u : Value), (enc xs)[j]? = some u → vs[off + j]? = some u) : Cells b off (enc (xs.take i)) w := fun j u hj => by
 rw [cell_of_row w b _ _ E _ hb, List.getElem?_toArray]
 refine hvs _ u ?_
 rw [← enc_take, List.getElem?_take] at hj
 split at hj
 ·exact hj
 ·cases hj
theorem ins_cells {xs : List α} {i off : Nat} {e : α} {vs vs0 : List Value} (hi : i < xs.length) (hvl : off + (xs.length + 1) * (Enc.k α + 1) ≤ vs.length)
  (h0 : ∀ j u, (enc (xs.take i))[j]? = some u → vs[off + j]? = some u)
  (hvs0 : vs0 = splice (splice vs (off + (i + 1) * (Enc.k α + 1)) (enc (xs.drop i))) (off + i * (Enc.k α + 1)) (Enc.f e) ∨ vs0 = splice (splice vs (off + i * (Enc.k α + 1)) (Enc.f e)) (off + (i + 1) * (Enc.k α + 1)) (enc (xs.drop i))) :
  vs0.length = vs.length ∧ ∀ j u, (enc (insF xs i e))[j]? = some u → vs0[off + j]? = some u := by
 have hdl : (enc (xs.drop i)).length = (xs.length - i) * (Enc.k α + 1) := by rw [enc_len, List.length_drop]
 have e1 : xs.length * (Enc.k α + 1) = i * (Enc.k α + 1) + (xs.length - i) * (Enc.k α + 1) := by rw [← Nat.add_mul];congr 1;omega
 have e2 : (i + 1) * (Enc.k α + 1) = i * (Enc.k α + 1) + (Enc.k α + 1) := Nat.succ_mul _ _
 have e3 : (xs.length + 1) * (Enc.k α + 1) = xs.length * (Enc.k α + 1) + (Enc.k α + 1) := Nat.succ_mul _ _
 have hf := Enc.len e
 have hxl := enc_len xs
 have hins := fun j => enc_ins xs i e (by omega) j
 have htk : ∀ j, j < i * (Enc.k α + 1) → (enc (xs.take i))[j]? = (enc xs)[j]? := fun j hj => by rw [← enc_take, List.getElem?_take, if_pos hj]
 have hdr : ∀ j, (enc (xs.drop i))[j]? = (enc xs)[i * (Enc.k α + 1) + j]? := fun j => by rw [← enc_drop, List.getElem?_drop]
 generalize (xs.length - i) * (Enc.k α + 1) = D at *
 generalize (xs.length + 1) * (Enc.k α + 1) = N1 at *
 generalize xs.length * (Enc.k α + 1) = N at *
 generalize (i + 1) * (Enc.k α + 1) = I1 at *
 generalize hI : i * (Enc.k α + 1) = I at *
 generalize Enc.k α + 1 = K at *
 have hlen : ∀ (a b : List Value) (o : Nat), (splice a o b).length = a.length := fun a b o => splice_len b o a
 rcases hvs0 with rfl | rfl
 ·refine ⟨by rw [hlen, hlen], fun j u hj => ?_⟩
  rw [splice_get _ _ _ _ (by rw [hlen, hf];omega), splice_get _ _ _ _ (by rw [hdl];omega), hf, hdl]
  rw [hins] at hj
  by_cases h1 : j < I
  ·rw [if_pos h1] at hj
   rw [if_neg (by omega), if_neg (by omega)]
   exact h0 j u (by rw [htk j h1];exact hj)
  ·rw [if_neg h1] at hj
   by_cases h2 : j < I1
   ·rw [if_pos h2] at hj
    rw [if_pos (by omega), show off + j - (off + I) = j - I by omega]
    exact hj
   ·rw [if_neg h2] at hj
    have hlt : j - K < (enc xs).length := by
     rcases Nat.lt_or_ge (j - K) (enc xs).length with h' | h'
     ·exact h'
     ·rw [List.getElem?_eq_none h'] at hj;cases hj
    rw [if_neg (by omega), if_pos (by omega), hdr, show I + (off + j - (off + I1)) = j - K by omega]
    exact hj
 ·refine ⟨by rw [hlen, hlen], fun j u hj => ?_⟩
  rw [splice_get _ _ _ _ (by rw [hlen, hdl];omega), splice_get _ _ _ _ (by rw [hf];omega), hf, hdl]
  rw [hins] at hj
  by_cases h1 : j < I
  ·rw [if_pos h1] at hj
   rw [if_neg (by omega), if_neg (by omega)]
   exact h0 j u (by rw [htk j h1];exact hj)
  ·rw [if_neg h1] at hj
   by_cases h2 : j < I1
   ·rw [if_pos h2] at hj
    rw [if_neg (by omega), if_pos (by omega), show off + j - (off + I) = j - I by omega]
    exact hj
   ·rw [if_neg h2] at hj
    have hlt : j - K < (enc xs).length := by
     rcases Nat.lt_or_ge (j - K) (enc xs).length with h' | h'
     ·exact h'
     ·rw [List.getElem?_eq_none h'] at hj;cases hj
    rw [if_pos (by omega), hdr, show I + (off + j - (off + I1)) = j - K by omega]
    exact hj
end
end Go.Proofs.YtnjmonkehjlaoaaGreatDoor
namespace Go.Proofs.YtnjmonkehjlaoaaGreatDoor
variable {df : List Deferred}
open Go.RowKit
section
variable {P : Program} {a : Act} {w w' : World} {w0 : Bs} {n : Nat} {l : List (Nat × Value)} {L L' : List HP}
 {dst : Option Nat} {R : Value → World → Prop} {ty : TypeId} {pos : String} {af : Array Edge} {g : Option (Nat × Bool)}
end
def emp0 (v : Value) : HP where
 holds F _ := (∀ b, ¬ F b) ∧ ∃ ao, v = .slice ao 0 0
 stable := fun _ _ _ h _ => h
 dom := fun _ _ b h hb => absurd hb (h.1 b)
theorem emp0.get {v : Value} {w : World} (h : (emp0 v).rd w) : ∃ ao, v = .slice ao 0 0 := let ⟨_, h⟩ := h; h.2
section
variable {P : Program} {a : Act} {w w' : World} {w0 : Bs} {n : Nat} {l : List (Nat × Value)} {L L' : List HP}
 {dst : Option Nat} {R : Value → World → Prop} {ty : TypeId} {pos : String} {af : Array Edge} {g : Option (Nat × Bool)} {α : Type} [Enc α]
theorem v_bs0 {T E k : Nat} (hT : elOf P T = some E) (hE : szOf P E = some k) :
  Gives P ⟨dst, .buildSlice T 0 #[], ty, pos, af, g⟩ a w (fun v w' => St w [emp0 v] w') := by
 refine givesv (v := .slice (some ⟨w.heap.size, 0, none⟩) 0 0) (w' := w.alloc (.cells #[] E)) ?_ ?_
 ·simp only [execOp, Instr.buildSlice, Sem.run_bind, run_underlying (elOf_und hT), Result.andThen_ok, szOf_run hE]
  have e : (Array.map (fun (_ : Nat) => (default : Value)) (Array.range 0)) = #[] := Array.eq_empty_of_size_eq_zero (by simp)
  simp [Instr.fill, newRow, e]
 ·have h := (St.refl w).alloc [] E
  have := h.conv (As := [emp0 (.slice (some ⟨w.heap.size, 0, none⟩) 0 0)]) At.here (fun F _ => ⟨fun _ => False, fun _ h => h.elim, Sep.one ⟨fun _ h => h, _, rfl⟩⟩)
  exact this
theorem v_appN {x y : Operand} {t tx : TypeId} {E E' : Nat} {v y0 z : Value} (hk : Kn df n a l) (hv : SlT ([] : List α) v w)
  (hT : elOf P t = some E) (hTx : elOf P tx = some E') (hE : szOf P E = some (Enc.k α + 1)) (hz : zeroOf P E = some z) (hs : SlT ([] : List α) y0 w)
  (hx : ev l x = some v := by rfl) (hy : ev l y = some y0 := by rfl) :
  Gives P ⟨dst, .call { callee := .builtin .append, args := #[x, y], argTypes := #[t, tx] }, ty, pos, af, g⟩ a w (fun v' w' => v' = v ∧ St w [] w') := by
 obtain ⟨i, hi, his, hiz⟩ := byOf_info hE hz
 have hsrc : Src P (Enc.k α + 1) tx y0 0 [] w := Src.ofT hTx hs
 obtain ⟨ao, c, rfl, hao, _, _⟩ := hv.shape
 refine givesv (v := .slice ao 0 c) (w' := w) ?_ (same _ _)
 have hr : (Builtin.append_ #[t, tx] ty #[.slice ao 0 c, y0]).run P w = .ok (.slice ao 0 c) w := by
  cases ao with
  | none =>
   obtain ⟨_, rfl⟩ := hao rfl
   rcases hsrc.kind with ⟨e', hk'⟩ | hk' <;> simp [Builtin.append_, run_underlying (elOf_und hT), run_underlying hk', sizeOf, typeInfo, hi, hsrc.len, his, hsrc.cells]
  | some ad =>
   have hst : (storeCells (ad.add (0 * (Enc.k α + 1))) [] 0).run P w = .ok () w := rfl
   rcases hsrc.kind with ⟨e', hk'⟩ | hk' <;> simp [Builtin.append_, run_underlying (elOf_und hT), run_underlying hk', sizeOf, typeInfo, hi, hsrc.len, his, hsrc.cells, storeCells]
 simp [execOp, resolve, invoke, builtin, hk.eval hx, hk.eval hy, hr]
theorem v_app0 {x y : Operand} {t tx : TypeId} {E E' : Nat} {v y0 z : Value} {ys : List α} (hk : Kn df n a l) (hv : (emp0 v).rd w) (hne : ys ≠ [])
  (hT : elOf P t = some E) (hTx : elOf P tx = some E') (hE : szOf P E = some (Enc.k α + 1)) (hz : zeroOf P E = some z) (hzs : z.cells.size = Enc.k α + 1) (hs : SlT ys y0 w) {by_ : Nat} (hby : ((P.info? E).map (·.bytes)).getD 0 = by_) (hbytes : ys.length * by_ ≤ 140737488355328) (h63 : ys.length ≤ maxLen)
  (hx : ev l x = some v := by rfl) (hy : ev l y = some y0 := by rfl) :
  Gives P ⟨dst, .call { callee := .builtin .append, args := #[x, y], argTypes := #[t, tx] }, ty, pos, af, g⟩ a w (fun v' w' => St w [OwT E ys v'] w') := by
 obtain ⟨ao, rfl⟩ := emp0.get hv
 obtain ⟨i, hi, his, hiz⟩ := byOf_info hE hz
 have hib : i.bytes = by_ := by rw [hi] at hby;exact hby
 have hsrc : Src P (Enc.k α + 1) tx y0 ys.length (enc ys) w := Src.ofT hTx hs
 have hq : 0 < ys.length := List.length_pos_iff.2 hne
 have hsmall : 0 + ys.length ≤ 9223372036854775807 := by simp only [maxLen] at h63;omega
 have hold : (Builtin.firstCells i.size 0 (.slice ao 0 0)).run P w.drew = .ok (([] : List Value).toArray) w.drew := by
  cases ao with
  | none => simp [Builtin.firstCells]
  | some ad => exact run_firstCells_some w.drew i.size 0 ad 0 0 [] (by simp) (fun j v hj => by simp at hj)
 have hr := run_append_grow_src (P := P) w t tx ty E i z (elOf_und hT) hi hiz ao 0 0 [] hold y0 ys.length (enc ys) (by rw [his];exact hsrc) (by omega) (by omega) (growslice_fits (by omega) (by rw [hib, Nat.zero_add];exact hbytes))
 simp only [Nat.zero_add, List.nil_append] at hr
 refine givesv (v := .slice (some ⟨w.heap.size, 0, none⟩) ys.length (grownCap w ys.length 0 E)) (w' := w.drew.alloc (.cells ((enc ys).toArray ++ Builtin.zeroCells z.cells (grownCap w ys.length 0 E - ys.length)) E)) (by simp [execOp, resolve, invoke, builtin, hk.eval hx, hk.eval hy, hr]) ?_
 have hge := grownCap_ge w ys.length 0 E
 have hcm := grownCap_le_maxLen w ys.length 0 E h63
 have hlen : (enc ys).length = ys.length * (Enc.k α + 1) := enc_len ys
 generalize grownCap w ys.length 0 E = gc at *
 have hz0 : (Builtin.zeroCells z.cells (gc - ys.length)).toList.length = (gc - ys.length) * (Enc.k α + 1) := by rw [Array.length_toList, size_zeroCells, hzs]
 have hww : (w.drew.alloc (.cells (enc ys ++ (Builtin.zeroCells z.cells (gc - ys.length)).toList).toArray E)) = w.drew.alloc (.cells ((enc ys).toArray ++ Builtin.zeroCells z.cells (gc - ys.length)) E) := by
  congr 2
  apply Array.ext'
  simp
 have hal := (St.refl w).drew.alloc (enc ys ++ (Builtin.zeroCells z.cells (gc - ys.length)).toList) E
 rw [hww] at hal
 generalize (Builtin.zeroCells z.cells (gc - ys.length)).toList = zs at *
 have hgl : ys.length * (Enc.k α + 1) + (gc - ys.length) * (Enc.k α + 1) = gc * (Enc.k α + 1) := by rw [← Nat.add_mul];congr 1;omega
 exact hal.toOwn (ys := ys) (off := 0) (cap := gc) At.here hge hcm (by rw [List.length_append, hlen, hz0, Nat.zero_add, hgl];exact Nat.le_refl _) (fun j u hj => by
  have hlt := enc_get_lt hj
  rw [Nat.zero_add, List.getElem?_append_left (by rw [hlen];exact hlt)]
  exact hj)
end
section
variable {α : Type} (p : α → Bool)
structure Sieve (s ys : List α) (i j : Nat) : Prop where
 len : ys.length = s.length
 le : i < j
 head : ys.take i = (s.take j).filter (fun x => !p x)
 tail : ys.drop j = s.drop j
end
section
variable {α : Type} [Enc α]
end
section
variable {α : Type} [Enc α]
variable {P : Program} {a : Act} {w w' : World} {w0 : Bs} {n : Nat} {l : List (Nat × Value)} {L L' : List HP}
 {dst : Option Nat} {R : Value → World → Prop} {ty : TypeId} {pos : String} {af : Array Edge} {g : Option (Nat × Bool)}
end
end Go.Proofs.YtnjmonkehjlaoaaGreatDoor
namespace Go.Proofs.YtnjmonkehjlaoaaGreatDoor
open Go.RowKit
section
variable {α : Type} [Enc α] [EncI α] {P : Program} {W : World}
end
theorem Arg.str {P : Program} {W : World} {T : TypeId} {v : Value} (h : Arg P W T v) (hT : P.underlying T = some .string) (ha : aggOf P T = some false) : ∃ s, v = .string s ∧ s.size ≤ maxLen := by
 obtain ⟨n, h1, h2⟩ := rdg_str (D := 7) hT h.1
 rw [h.2.2 ha] at h1
 simp at h1
 exact ⟨n, h1, h2⟩
end Go.Proofs.YtnjmonkehjlaoaaGreatDoor
