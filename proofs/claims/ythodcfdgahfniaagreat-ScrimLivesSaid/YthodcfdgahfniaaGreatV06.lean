/- Steps that find their own grounds. Package-level variables that the text lays; arrays that are read. Layer 19: hooks: where they lead, and their names. Layer 19: the hooks' names, and rows of hooks. Layer 19: the document's table, and rows of hooks. -/
import Derived.Test.YthodcfdgahfniaaGreatV05
import Derived.Test.YthodcfdgahfniaaGreatRows
import Derived.MakeChecks
import Derived.LaidLaws
import Derived.FnData
import Derived.OpenShut
set_option linter.all false
namespace Go.Proofs.YthodcfdgahfniaaGreat
variable {df : List Deferred}
variable {rr : Option Nat}
open Go.RowKit
set_option maxRecDepth 100000

section
variable {Q : Exit → Act → World → Prop} {a : Act} {w w' : World} {w0 : Bs} {n d : Nat} {l r : List (Nat × Value)} {L L' : List HP} {ops : Array Oper} {rest : List Oper}
  {dst : Option Nat} {R : Value → World → Prop} {ty : TypeId} {pos : String} {af : Array Edge} {g : Option (Nat × Bool)} {o : Op}

theorem Kn.kp (ts : List Nat) (hk : Kn df n a l) (h : KP l ts r := by repeat (first | exact KP.nil | apply KP.cons rfl)) : Kn df n a r := hk.keep h
theorem Kn.sd (hk : Kn df n a l) (h : Proofs.YthodcfdgahfniaaGreat.subD l [] r := by (repeat (first | exact trivial | refine ⟨rfl, ?_⟩ | refine ⟨trivial, ?_⟩)); fail_if_success focus skip) : Kn df n a r := hk.subD h
theorem St.sb (h : St w0 L w) (hs : Sub L' L := by (repeat (first | exact Sub.nil | exact Sub.refl | refine Sub.cons (by (repeat (first | exact At.here | apply At.there))) ?_)); fail_if_success focus skip) : St w0 L' w := h.sub hs

theorem st {v : Value} (hk : Kn df n a l) (k : ∀ a', Kn df n a' ((d, v) :: l) → wpListIn (FR rr) 0 Tryz.prog ops Q rest a' w)
    (hg : gdK ops l g = some true := by rfl) (hd : Nat.blt d n = true := by rfl)
    (he : Gives Tryz.prog ⟨some d, o, ty, pos, af, g⟩ a w (fun v' w' => v' = v ∧ w' = w) := by first | exact g_move hk ⟨rfl, rfl⟩ | exact g_assign hk ⟨rfl, rfl⟩ | exact g_field hk ⟨rfl, rfl⟩ (fT rfl) | exact g_leqT hk ⟨rfl, rfl⟩ (hpq := by first | assumption | omega) | exact g_leqF hk ⟨rfl, rfl⟩ (hpq := by first | assumption | omega) | exact g_lssT hk ⟨rfl, rfl⟩ (hpq := by first | assumption | omega) | exact g_lssF hk ⟨rfl, rfl⟩ (hpq := by first | assumption | omega) | exact g_geqT hk ⟨rfl, rfl⟩ (hpq := by first | assumption | omega) | exact g_geqF hk ⟨rfl, rfl⟩ (hpq := by first | assumption | omega) | exact g_gtrT hk ⟨rfl, rfl⟩ (hpq := by first | assumption | omega) | exact g_gtrF hk ⟨rfl, rfl⟩ (hpq := by first | assumption | omega) | exact g_eqiT hk ⟨rfl, rfl⟩ | exact g_eqiE hk ⟨rfl, rfl⟩ (hpq := by first | assumption | omega) | exact g_eqiF hk ⟨rfl, rfl⟩ (hpq := by first | assumption | omega) | exact g_neiT hk ⟨rfl, rfl⟩ (hpq := by first | assumption | omega) | exact g_neiF hk ⟨rfl, rfl⟩ (hpq := by first | assumption | omega) | exact g_eqbT hk ⟨rfl, rfl⟩ Tryz.underlying4 | exact g_eqST hk ⟨rfl, rfl⟩ (hpq := by first | rfl | assumption) | exact g_eqSF hk ⟨rfl, rfl⟩ (hpq := by assumption) | exact g_neST hk ⟨rfl, rfl⟩ (hpq := by assumption) | exact g_neSF hk ⟨rfl, rfl⟩ (hpq := by first | rfl | assumption) | exact g_build hk ⟨rfl, rfl⟩ (fsT rfl) (oT rfl) | exact g_pick_t hk ⟨rfl, rfl⟩ | exact g_pick_f hk ⟨rfl, rfl⟩ | exact g_add hk ⟨rfl, rfl⟩ (hlo := by omega) (hhi := by omega) | exact g_sub hk ⟨rfl, rfl⟩ (hlo := by omega) (hhi := by omega) | exact g_eqb hk ⟨rfl, rfl⟩ Tryz.underlying4 | exact g_neb hk ⟨rfl, rfl⟩ Tryz.underlying4 | exact g_not hk ⟨rfl, rfl⟩ | exact g_min hk ⟨rfl, rfl⟩ | exact g_max hk ⟨rfl, rfl⟩ | exact g_ex0 hk ⟨rfl, rfl⟩ | exact g_ex1 hk ⟨rfl, rfl⟩ | exact g_extract hk ⟨rfl, rfl⟩ | exact g_nilc hk ⟨rfl, rfl⟩ | exact g_own1 hk hS ⟨rfl, rfl⟩ (aT rfl) | exact g_ownN hk hS ⟨rfl, rfl⟩ (aT rfl) (zT rfl) | exact g_lenT hk ⟨rfl, rfl⟩ (ht := eT rfl) (hs := (by first | exact St.rdT hS (by assumption) | exact OwT.rd (hS.rd (A := OwT _ _ _) (by (repeat (first | exact At.here | apply At.there)))) | assumption)) | exact g_lenSt hk ⟨rfl, rfl⟩ (sT rfl) | exact g_ixT hk ⟨rfl, rfl⟩ (ht := eT rfl) (hs := (by first | exact St.rdT hS (by assumption) | exact OwT.rd (hS.rd (A := OwT _ _ _) (by (repeat (first | exact At.here | apply At.there)))) | assumption)) (hi := (by first | assumption | exact lt_of_get (by assumption) | omega | ((repeat rw [List.length_set]); (repeat rw [List.length_append]); (repeat rw [List.length_cons]); (repeat rw [List.length_nil]); omega))) (hE := zT rfl) | exact g_ixTi hk ⟨rfl, rfl⟩ (ht := eT rfl) (hs := (by first | exact St.rdT hS (by assumption) | exact OwT.rd (hS.rd (A := OwT _ _ _) (by (repeat (first | exact At.here | apply At.there)))) | assumption)) (h0 := by omega) (hi := (by first | omega | ((repeat rw [List.length_set]); (repeat rw [List.length_append]); (repeat rw [List.length_cons]); (repeat rw [List.length_nil]); omega))) (hE := zT rfl) | exact g_ldT1 hk ⟨rfl, rfl⟩ (aT rfl) (hs := (by first | exact St.rdT hS (by assumption) | exact OwT.rd (hS.rd (A := OwT _ _ _) (by (repeat (first | exact At.here | apply At.there)))) | assumption)) (hi := by assumption) | exact g_ldTF hk ⟨rfl, rfl⟩ (aT rfl) (hs := (by first | exact St.rdT hS (by assumption) | exact OwT.rd (hS.rd (A := OwT _ _ _) (by (repeat (first | exact At.here | apply At.there)))) | assumption)) (hi := by assumption) | exact g_ldTN hk ⟨rfl, rfl⟩ (aT rfl) (hs := (by first | exact St.rdT hS (by assumption) | exact OwT.rd (hS.rd (A := OwT _ _ _) (by (repeat (first | exact At.here | apply At.there)))) | assumption)) (hi := by assumption) (hu := (by simp only [Enc.f, List.cons_append, List.nil_append]; rfl)) (hz := zT rfl) | exact g_ldTS hk ⟨rfl, rfl⟩ (aT rfl) (hs := (by first | exact St.rdT hS (by assumption) | exact OwT.rd (hS.rd (A := OwT _ _ _) (by (repeat (first | exact At.here | apply At.there)))) | assumption)) (hi := by assumption) (hz := zT rfl) | exact g_ldT2 hk ⟨rfl, rfl⟩ (aT rfl) (hs := (by first | exact St.rdT hS (by assumption) | exact OwT.rd (hS.rd (A := OwT _ _ _) (by (repeat (first | exact At.here | apply At.there)))) | assumption)) (hi := by assumption) | exact g_slSt hk ⟨rfl, rfl⟩ (ht := sT rfl) (h0 := by omega) (h1 := by omega) | exact g_slSf hk ⟨rfl, rfl⟩ (ht := sT rfl) (h0 := by omega) (h1 := by omega) | exact g_slS hk ⟨rfl, rfl⟩ (ht := sT rfl) (h0 := by omega) (h1 := by omega) (h2 := by omega) | exact g_ixS0 hk (ht := sT rfl) (h1 := by assumption) (h := ⟨rfl, rfl⟩) | exact g_ixS hk (ht := sT rfl) (h1 := by assumption) (h := ⟨rfl, rfl⟩) | exact g_makeFunc hk ⟨rfl, rfl⟩ | exact g_fieldV hk ⟨rfl, rfl⟩ (fvT rfl) | exact g_la1 hk ⟨rfl, rfl⟩ (aT rfl) (hs := (by first | exact St.rdT hS (by assumption) | exact OwT.rd (hS.rd (A := OwT _ _ _) (by (repeat (first | exact At.here | apply At.there)))) | assumption)) (hi := (by first | omega | ((repeat rw [List.length_set]); (repeat rw [List.length_append]); (repeat rw [List.length_cons]); (repeat rw [List.length_nil]); omega))) | exact g_laF hk ⟨rfl, rfl⟩ (aT rfl) (hs := (by first | exact St.rdT hS (by assumption) | exact OwT.rd (hS.rd (A := OwT _ _ _) (by (repeat (first | exact At.here | apply At.there)))) | assumption)) (hi := (by first | omega | ((repeat rw [List.length_set]); (repeat rw [List.length_append]); (repeat rw [List.length_cons]); (repeat rw [List.length_nil]); omega))) | exact g_laN hk ⟨rfl, rfl⟩ (aT rfl) (hs := (by first | exact St.rdT hS (by assumption) | exact OwT.rd (hS.rd (A := OwT _ _ _) (by (repeat (first | exact At.here | apply At.there)))) | assumption)) (hi := (by first | omega | ((repeat rw [List.length_set]); (repeat rw [List.length_append]); (repeat rw [List.length_cons]); (repeat rw [List.length_nil]); omega))) (hu := rfl) (hz := zT rfl) | exact g_la2 hk ⟨rfl, rfl⟩ (aT rfl) (hs := (by first | exact St.rdT hS (by assumption) | exact OwT.rd (hS.rd (A := OwT _ _ _) (by (repeat (first | exact At.here | apply At.there)))) | assumption)) (hi := (by first | omega | ((repeat rw [List.length_set]); (repeat rw [List.length_append]); (repeat rw [List.length_cons]); (repeat rw [List.length_nil]); omega))) | exact g_laS hk ⟨rfl, rfl⟩ (aT rfl) (hs := (by first | exact St.rdT hS (by assumption) | exact OwT.rd (hS.rd (A := OwT _ _ _) (by (repeat (first | exact At.here | apply At.there)))) | assumption)) (hi := (by first | omega | ((repeat rw [List.length_set]); (repeat rw [List.length_append]); (repeat rw [List.length_cons]); (repeat rw [List.length_nil]); omega))) (hz := zT rfl) | exact g_var1 hk ⟨rfl, rfl⟩ (aT rfl) (hb := (by first | exact St.base hS (by assumption) | assumption)) | exact g_varN hk ⟨rfl, rfl⟩ (aT rfl) (hb := (by first | exact St.base hS (by assumption) | assumption)) (hs := zT rfl) | exact g_ixArr hk ⟨rfl, rfl⟩ (ht := arT rfl) (he := zT rfl) (h0 := by first | decide | omega) (h1 := by first | decide | omega) | exact g_buildA ⟨rfl, rfl⟩ (hT := arT rfl) (he := zT rfl) (hz := oT rfl) | exact g_and7a hk ⟨rfl, rfl⟩ (h0 := by omega) (h1 := by omega) | exact g_and7b hk ⟨rfl, rfl⟩ (h0 := by omega) | exact g_and8a hk ⟨rfl, rfl⟩ (h0 := by omega) (h1 := by omega) | exact g_and8b hk ⟨rfl, rfl⟩ (h0 := by omega) | exact g_convU hk ⟨rfl, rfl⟩ (ht := iT rfl) (hs := iT rfl) (h0 := by omega) (h1 := by omega) | exact g_convS hk ⟨rfl, rfl⟩ (ht := iT rfl) (hs := iT rfl) (h0 := by omega) (h1 := by omega) | exact g_shr1 hk ⟨rfl, rfl⟩ (hm := by decide) | fail) : wpListIn (FR rr) 0 Tryz.prog ops Q (⟨some d, o, ty, pos, af, g⟩ :: rest) a w :=
  sg hk (he.mono fun v' w' h => by obtain ⟨rfl, rfl⟩ := h; exact k) hg hd
theorem st_skip (hk : Kn df n a l) (h : ∀ a', Kn df n a' ((d, undef) :: l) → wpListIn (FR rr) 0 Tryz.prog ops Q rest a' w) (hg : gdK ops l g = some false := by rfl) (hd : Nat.blt d n = true := by rfl) :
    wpListIn (FR rr) 0 Tryz.prog ops Q (⟨some d, o, ty, pos, af, g⟩ :: rest) a w := s_skip hk h hg hd

theorem st_lss {x y : Operand} {t t' : TypeId} {kk : IntKind} {p q : Int} (hk : Kn df n a l) (ht : p < q → ∀ a', Kn df n a' ((d, .bool true) :: l) → wpListIn (FR rr) 0 Tryz.prog ops Q rest a' w) (hf : ¬ p < q → ∀ a', Kn df n a' ((d, .bool false) :: l) → wpListIn (FR rr) 0 Tryz.prog ops Q rest a' w)
    (hx : ev l x = some (.int kk p) := by rfl) (hy : ev l y = some (.int kk q) := by rfl) (hg : gdK ops l g = some true := by rfl) (hd : Nat.blt d n = true := by rfl) : wpListIn (FR rr) 0 Tryz.prog ops Q (⟨some d, .binOp .lss t x y t', ty, pos, af, g⟩ :: rest) a w := sg hk (sp_lss hk ht hf hx hy) hg hd
theorem st_gtr {x y : Operand} {t t' : TypeId} {kk : IntKind} {p q : Int} (hk : Kn df n a l) (ht : q < p → ∀ a', Kn df n a' ((d, .bool true) :: l) → wpListIn (FR rr) 0 Tryz.prog ops Q rest a' w) (hf : ¬ q < p → ∀ a', Kn df n a' ((d, .bool false) :: l) → wpListIn (FR rr) 0 Tryz.prog ops Q rest a' w)
    (hx : ev l x = some (.int kk p) := by rfl) (hy : ev l y = some (.int kk q) := by rfl) (hg : gdK ops l g = some true := by rfl) (hd : Nat.blt d n = true := by rfl) : wpListIn (FR rr) 0 Tryz.prog ops Q (⟨some d, .binOp .gtr t x y t', ty, pos, af, g⟩ :: rest) a w := sg hk (sp_gtr hk ht hf hx hy) hg hd
theorem st_eqi {x y : Operand} {t t' : TypeId} {kk : IntKind} {p q : Int} (hk : Kn df n a l) (ht : p = q → ∀ a', Kn df n a' ((d, .bool true) :: l) → wpListIn (FR rr) 0 Tryz.prog ops Q rest a' w) (hf : ¬ p = q → ∀ a', Kn df n a' ((d, .bool false) :: l) → wpListIn (FR rr) 0 Tryz.prog ops Q rest a' w)
    (hx : ev l x = some (.int kk p) := by rfl) (hy : ev l y = some (.int kk q) := by rfl) (hg : gdK ops l g = some true := by rfl) (hd : Nat.blt d n = true := by rfl) : wpListIn (FR rr) 0 Tryz.prog ops Q (⟨some d, .binOp .eql t x y t', ty, pos, af, g⟩ :: rest) a w := sg hk (sp_eqi hk ht hf hx hy) hg hd
theorem st_nei {x y : Operand} {t t' : TypeId} {kk : IntKind} {p q : Int} (hk : Kn df n a l) (ht : p = q → ∀ a', Kn df n a' ((d, .bool false) :: l) → wpListIn (FR rr) 0 Tryz.prog ops Q rest a' w) (hf : ¬ p = q → ∀ a', Kn df n a' ((d, .bool true) :: l) → wpListIn (FR rr) 0 Tryz.prog ops Q rest a' w)
    (hx : ev l x = some (.int kk p) := by rfl) (hy : ev l y = some (.int kk q) := by rfl) (hg : gdK ops l g = some true := by rfl) (hd : Nat.blt d n = true := by rfl) : wpListIn (FR rr) 0 Tryz.prog ops Q (⟨some d, .binOp .neq t x y t', ty, pos, af, g⟩ :: rest) a w := sg hk (sp_nei hk ht hf hx hy) hg hd
theorem st_eqS {x y : Operand} {t t' : TypeId} {p q : ByteArray} (hk : Kn df n a l) (ht : p = q → ∀ a', Kn df n a' ((d, .bool true) :: l) → wpListIn (FR rr) 0 Tryz.prog ops Q rest a' w) (hf : ¬ p = q → ∀ a', Kn df n a' ((d, .bool false) :: l) → wpListIn (FR rr) 0 Tryz.prog ops Q rest a' w)
    (hx : ev l x = some (.string p) := by rfl) (hy : ev l y = some (.string q) := by rfl) (hg : gdK ops l g = some true := by rfl) (hd : Nat.blt d n = true := by rfl) : wpListIn (FR rr) 0 Tryz.prog ops Q (⟨some d, .binOp .eql t x y t', ty, pos, af, g⟩ :: rest) a w := sg hk (sp_eqS hk ht hf hx hy) hg hd
theorem st_eqs {x y : Operand} {t t' : TypeId} {ks : List SK} {us vs : List Value} (hk : Kn df n a l) (ht : eqC us vs = true → ∀ a', Kn df n a' ((d, .bool true) :: l) → wpListIn (FR rr) 0 Tryz.prog ops Q rest a' w) (hf : eqC us vs = false → ∀ a', Kn df n a' ((d, .bool false) :: l) → wpListIn (FR rr) 0 Tryz.prog ops Q rest a' w)
    (hT : ksOf t = some ks := by rfl) (ha : tyAgg[t]? = some (some true) := by rfl)
    (hx : ev l x = some (.agg us.toArray) := by rfl) (hy : ev l y = some (.agg vs.toArray) := by rfl) (h1 : shp ks us = true := by rfl) (h2 : shp ks vs = true := by rfl) (hg : gdK ops l g = some true := by rfl) (hd : Nat.blt d n = true := by rfl) : wpListIn (FR rr) 0 Tryz.prog ops Q (⟨some d, .binOp .eql t x y t', ty, pos, af, g⟩ :: rest) a w := sg hk (sp_eqs hk ht hf (kT hT) (aT ha) (gT hT) hx hy h1 h2) hg hd
theorem st_cmpS {x y : Operand} {t t' : TypeId} {op : BinOp} {p q : ByteArray} {b : Bool} (hk : Kn df n a l) (ht : b = true → ∀ a', Kn df n a' ((d, .bool true) :: l) → wpListIn (FR rr) 0 Tryz.prog ops Q rest a' w) (hf : b = false → ∀ a', Kn df n a' ((d, .bool false) :: l) → wpListIn (FR rr) 0 Tryz.prog ops Q rest a' w)
    (hx : ev l x = some (.string p) := by rfl) (hy : ev l y = some (.string q) := by rfl) (ho : cmpS op p q = some b := by rfl) (hg : gdK ops l g = some true := by rfl) (hd : Nat.blt d n = true := by rfl) : wpListIn (FR rr) 0 Tryz.prog ops Q (⟨some d, .binOp op t x y t', ty, pos, af, g⟩ :: rest) a w := by
  cases b with
  | true => exact sg hk (g_cmpS hk (ht rfl) hx hy ho) hg hd
  | false => exact sg hk (g_cmpS hk (hf rfl) hx hy ho) hg hd

theorem st_box {x : Operand} {T : TypeId} {v : Value} {vs : List Value} (hk : Kn df n a l) (hS : St w0 L w)
    (k : ∀ w' b, St w0 (pts b vs T :: L) w' → ∀ a', Kn df n a' ((d, .pointer (some ⟨b, 0, none⟩)) :: l) → wpListIn (FR rr) 0 Tryz.prog ops Q rest a' w')
    (hx : ev l x = some v := by rfl) (hv : v.cells = vs.toArray := by rfl) (hg : gdK ops l g = some true := by rfl) (hd : Nat.blt d n = true := by rfl) : wpListIn (FR rr) 0 Tryz.prog ops Q (⟨some d, .box T x, ty, pos, af, g⟩ :: rest) a w := sg hk (g_box hk hS k hx hv) hg hd
theorem st_alloc {T : TypeId} {v : Value} {vs : List Value} (hk : Kn df n a l) (hS : St w0 L w)
    (k : ∀ w' b, St w0 (pts b vs T :: L) w' → ∀ a', Kn df n a' ((d, .pointer (some ⟨b, 0, none⟩)) :: l) → wpListIn (FR rr) 0 Tryz.prog ops Q rest a' w')
    (hz : tyZ[T]? = some (some v) := by rfl) (hv : v.cells = vs.toArray := by rfl) (hg : gdK ops l g = some true := by rfl) (hd : Nat.blt d n = true := by rfl) : wpListIn (FR rr) 0 Tryz.prog ops Q (⟨some d, .alloc T, ty, pos, af, g⟩ :: rest) a w := sg hk (g_alloc hk hS k (oT hz) hv) hg hd
theorem st_store {x y : Operand} {T : TypeId} {b o : Nat} {v : Value} {vs us vs' : List Value} {T' : TypeId} (hk : Kn df n a l) (hS : St w0 L w)
    (k : ∀ w', St w0 (pts b vs' T' :: L') w' → ∀ a', Kn df n a' l → wpListIn (FR rr) 0 Tryz.prog ops Q rest a' w')
    (hx : ev l x = some (.pointer (some ⟨b, o, none⟩)) := by rfl) (hy : ev l y = some v := by rfl) (hv : v.cells = us.toArray := by rfl)
    (hat : At (pts b vs T') L L' := by (repeat (first | exact At.here | apply At.there)))
    (hsz : tySz[T]? = some (some us.length) := by rfl)
    (hone : us.all (·.oneCell') = true := by rfl) (hl : Nat.ble (o + us.length) vs.length = true := by rfl) (hsp : splice vs o us = vs' := by first | (simp only [splice, List.set_cons_zero, List.set_cons_succ, Enc.f, Hd.v, List.cons_append, List.nil_append, List.append_nil, Nat.zero_add, Nat.reduceAdd]; rfl) | rfl) (hg : gdK ops l g = some true := by rfl) : wpListIn (FR rr) 0 Tryz.prog ops Q (⟨none, .store T x y, ty, pos, af, g⟩ :: rest) a w :=
  su hk (g_store hk hS k hx hy hv (zT hsz) hat hone hl hsp) hg
theorem st_stS {x y : Operand} {T E : TypeId} {v : Value} {i : Nat} {xs : List ByteArray} {z : ByteArray} (hk : Kn df n a l) (hS : St w0 L w) (k : ∀ w', St w0 (OwT E (xs.set i z) v :: L') w' → ∀ a', Kn df n a' l → wpListIn (FR rr) 0 Tryz.prog ops Q rest a' w')
    (hx : ev l x = some (.pointer (some ⟨blk v, offs v + i * (Enc.k ByteArray + 1), none⟩)) := by rfl) (hy : ev l y = some (.string z) := by rfl) (hat : At (OwT E xs v) L L' := by (repeat (first | exact At.here | apply At.there)))
    (hsz : tySz[T]? = some (some 1) := by rfl) (hi : i < xs.length := by exact (by first | omega | ((repeat rw [List.length_set]); (repeat rw [List.length_append]); (repeat rw [List.length_cons]); (repeat rw [List.length_nil]); omega))) (hg : gdK ops l g = some true := by rfl) : wpListIn (FR rr) 0 Tryz.prog ops Q (⟨none, .store T x y, ty, pos, af, g⟩ :: rest) a w := su hk (g_stS hk hS k hx hy hat (zT hsz) hi) hg
theorem st_bs1I {T E : Nat} {q : List (Nat × Operand)} {z : Value} {m : Int} (hk : Kn df n a l) (hS : St w0 L w) (k : ∀ w' v, St w0 (OwT E [m] v :: L) w' → ∀ a', Kn df n a' ((d, v) :: l) → wpListIn (FR rr) 0 Tryz.prog ops Q rest a' w')
    (hp : evP l q = some [(0, .int .i64 m)] := by rfl) (hT : tyEl[T]? = some (some E) := by rfl) (hE : tySz[E]? = some (some 1) := by rfl) (hz : tyZ[E]? = some (some z) := by rfl) (hg : gdK ops l g = some true := by rfl) (hd : Nat.blt d n = true := by rfl) :
    wpListIn (FR rr) 0 Tryz.prog ops Q (⟨some d, .buildSlice T 1 q.toArray, ty, pos, af, g⟩ :: rest) a w := sg hk (g_bs1I hk hS k hp (eT hT) (zT hE) (oT hz)) hg hd
theorem st_bs1S {T E : Nat} {q : List (Nat × Operand)} {z : Value} {m : ByteArray} (hk : Kn df n a l) (hS : St w0 L w) (k : ∀ w' v, St w0 (OwT E [m] v :: L) w' → ∀ a', Kn df n a' ((d, v) :: l) → wpListIn (FR rr) 0 Tryz.prog ops Q rest a' w')
    (hp : evP l q = some [(0, .string m)] := by rfl) (hT : tyEl[T]? = some (some E) := by rfl) (hE : tySz[E]? = some (some 1) := by rfl) (hz : tyZ[E]? = some (some z) := by rfl) (hg : gdK ops l g = some true := by rfl) (hd : Nat.blt d n = true := by rfl) :
    wpListIn (FR rr) 0 Tryz.prog ops Q (⟨some d, .buildSlice T 1 q.toArray, ty, pos, af, g⟩ :: rest) a w := sg hk (g_bs1S hk hS k hp (eT hT) (zT hE) (oT hz)) hg hd
theorem st_app1 {α : Type} [Enc α] {x y : Operand} {t tx : TypeId} {E E' : Nat} {v y0 z : Value} {xs : List α} {e : α} {L'' : List HP} (hk : Kn df n a l) (hS : St w0 L w)
    (k : ∀ w' v', St w0 (OwT E (xs ++ [e]) v' :: L'') w' → ∀ a', Kn df n a' ((d, v') :: l) → wpListIn (FR rr) 0 Tryz.prog ops Q rest a' w')
    (hx : ev l x = some v := by rfl) (hy : ev l y = some y0 := by rfl)
    (hat : At (OwT E xs v) L L' := by (repeat (first | exact At.here | apply At.there)))
    (hT : tyEl[t]? = some (some E) := by rfl) (hTx : tyEl[tx]? = some (some E') := by rfl)
    (hat2 : At (OwT E' [e] y0) L' L'' := by (repeat (first | exact At.here | apply At.there)))
    (hE : tySz[E]? = some (some (Enc.k α + 1)) := by rfl) (hz : tyZ[E]? = some (some z) := by rfl) (hzs : z.cells.size = Enc.k α + 1 := by rfl) {by_ : Nat} (hby : tyBy[E]? = some by_ := by rfl) (hbytes : (xs.length + 1) * by_ ≤ 140737488355328 := by exact (by first | omega | ((repeat rw [List.length_set]); (repeat rw [List.length_append]); (repeat rw [List.length_cons]); (repeat rw [List.length_nil]); omega))) (h63 : xs.length + 1 ≤ 9223372036854775807 := by exact (by first | omega | ((repeat rw [List.length_set]); (repeat rw [List.length_append]); (repeat rw [List.length_cons]); (repeat rw [List.length_nil]); omega))) (hg : gdK ops l g = some true := by rfl) (hd : Nat.blt d n = true := by rfl) :
    wpListIn (FR rr) 0 Tryz.prog ops Q (⟨some d, .call { callee := .builtin .append, args := #[x, y], argTypes := #[t, tx] }, ty, pos, af, g⟩ :: rest) a w :=
  sg hk (g_app1 hk hS k hx hy hat (eT hT) (eT hTx) hat2 (zT hE) (oT hz) hzs (bT hby) hbytes h63) hg hd
theorem st_appE {α : Type} [Enc α] {x y : Operand} {t tx : TypeId} {E E' : Nat} {v y0 z : Value} {xs ys : List α} {L'' : List HP} (hk : Kn df n a l) (hS : St w0 L w)
    (k : ∀ w' v', St w0 (OwT E (xs ++ ys) v' :: L'') w' → ∀ a', Kn df n a' ((d, v') :: l) → wpListIn (FR rr) 0 Tryz.prog ops Q rest a' w')
    (hx : ev l x = some v := by rfl) (hy : ev l y = some y0 := by rfl)
    (hat : At (OwT E xs v) L L' := by (repeat (first | exact At.here | apply At.there)))
    (hT : tyEl[t]? = some (some E) := by rfl) (hTx : tyEl[tx]? = some (some E') := by rfl)
    (hat2 : At (OwT E' ys y0) L' L'' := by (repeat (first | exact At.here | apply At.there)))
    (hE : tySz[E]? = some (some (Enc.k α + 1)) := by rfl) (hz : tyZ[E]? = some (some z) := by rfl) (hzs : z.cells.size = Enc.k α + 1 := by rfl) {by_ : Nat} (hby : tyBy[E]? = some by_ := by rfl) (hbytes : (xs.length + ys.length) * by_ ≤ 140737488355328 := by exact (by first | omega | ((repeat rw [List.length_set]); (repeat rw [List.length_append]); (repeat rw [List.length_cons]); (repeat rw [List.length_nil]); omega))) (h63 : xs.length + ys.length ≤ 9223372036854775807 := by exact (by first | omega | ((repeat rw [List.length_set]); (repeat rw [List.length_append]); (repeat rw [List.length_cons]); (repeat rw [List.length_nil]); omega))) (hg : gdK ops l g = some true := by rfl) (hd : Nat.blt d n = true := by rfl) :
    wpListIn (FR rr) 0 Tryz.prog ops Q (⟨some d, .call { callee := .builtin .append, args := #[x, y], argTypes := #[t, tx] }, ty, pos, af, g⟩ :: rest) a w :=
  sg hk (g_appE hk hS k hx hy hat (eT hT) (eT hTx) hat2 (zT hE) (oT hz) hzs (bT hby) hbytes h63) hg hd
end

section
variable {n : Nat} {l : List (Nat × Value)} {w0 : Bs} {L : List HP} {os : List Oper} {i : Nat} {o : Oper} {r : List Oper} {acc : List (Nat × Nat × HV)} {HR : List (Nat × ((Nat → Value) → Value → HP))} {FinE : List (Nat × Nat × HV) → List (Nat × ((Nat → Value) → Value → HP)) → List HP → Prop} {TK : List HP}

theorem ob_v {c : Value} (hr : ObxE df Tryz.prog n os l w0 L FinE (i + 1) r (pushE o.dst i (.val c) acc) HR TK)
    (hg : ∀ us, gdK os.toArray (vwE acc l us (o.looksAt os.toArray)) o.guard = some true := by intro us; rfl)
    (h : ∀ (us : Nat → Value) (a : Act) (w : World), Kn df n a (vwE acc l us (o.looksAt os.toArray)) → depE acc us w (o.looksAt os.toArray) → St w0 L w → Gives Tryz.prog o a w (fun v w' => v = c ∧ St w [] w') := by intro us a w hk hd hS; have hk := Kn.vw hk (by repeat (first | exact VW.nil | apply VW.val rfl | apply VW.base rfl rfl | apply VW.res rfl | apply VW.upd rfl | apply VW.cpy rfl | apply VW.dep rfl | apply VW.fn rfl | apply VW.lnd rfl | apply VW.tak rfl)); first | exact g_move hk (same _ _) | exact g_assign hk (same _ _) | exact g_field hk (same _ _) (fT rfl) | exact g_leqT hk (same _ _) (hpq := by first | assumption | omega) | exact g_leqF hk (same _ _) (hpq := by first | assumption | omega) | exact g_lssT hk (same _ _) (hpq := by first | assumption | omega) | exact g_lssF hk (same _ _) (hpq := by first | assumption | omega) | exact g_geqT hk (same _ _) (hpq := by first | assumption | omega) | exact g_geqF hk (same _ _) (hpq := by first | assumption | omega) | exact g_gtrT hk (same _ _) (hpq := by first | assumption | omega) | exact g_gtrF hk (same _ _) (hpq := by first | assumption | omega) | exact g_eqiT hk (same _ _) | exact g_eqiE hk (same _ _) (hpq := by first | assumption | omega) | exact g_eqiF hk (same _ _) (hpq := by first | assumption | omega) | exact g_neiT hk (same _ _) (hpq := by first | assumption | omega) | exact g_neiF hk (same _ _) (hpq := by first | assumption | omega) | exact g_eqbT hk (same _ _) Tryz.underlying4 | exact g_eqST hk (same _ _) (hpq := by first | rfl | assumption) | exact g_eqSF hk (same _ _) (hpq := by assumption) | exact g_neST hk (same _ _) (hpq := by assumption) | exact g_neSF hk (same _ _) (hpq := by first | rfl | assumption) | exact g_build hk (same _ _) (fsT rfl) (oT rfl) | exact g_pick_t hk (same _ _) | exact g_pick_f hk (same _ _) | exact g_add hk (same _ _) (hlo := by omega) (hhi := by omega) | exact g_sub hk (same _ _) (hlo := by omega) (hhi := by omega) | exact g_eqb hk (same _ _) Tryz.underlying4 | exact g_neb hk (same _ _) Tryz.underlying4 | exact g_not hk (same _ _) | exact g_min hk (same _ _) | exact g_max hk (same _ _) | exact g_ex0 hk (same _ _) | exact g_ex1 hk (same _ _) | exact g_extract hk (same _ _) | exact g_nilc hk (same _ _) | exact g_own1 hk hS (same _ _) (aT rfl) | exact g_ownN hk hS (same _ _) (aT rfl) (zT rfl) | exact g_lenT hk (same _ _) (ht := eT rfl) (hs := (by first | exact St.rdT hS (by assumption) | exact OwT.rd (hS.rd (A := OwT _ _ _) (by (repeat (first | exact At.here | apply At.there)))) | assumption)) | exact g_lenSt hk (same _ _) (sT rfl) | exact g_ixT hk (same _ _) (ht := eT rfl) (hs := (by first | exact St.rdT hS (by assumption) | exact OwT.rd (hS.rd (A := OwT _ _ _) (by (repeat (first | exact At.here | apply At.there)))) | assumption)) (hi := (by first | assumption | exact lt_of_get (by assumption) | omega | ((repeat rw [List.length_set]); (repeat rw [List.length_append]); (repeat rw [List.length_cons]); (repeat rw [List.length_nil]); omega))) (hE := zT rfl) | exact g_ixTi hk (same _ _) (ht := eT rfl) (hs := (by first | exact St.rdT hS (by assumption) | exact OwT.rd (hS.rd (A := OwT _ _ _) (by (repeat (first | exact At.here | apply At.there)))) | assumption)) (h0 := by omega) (hi := (by first | omega | ((repeat rw [List.length_set]); (repeat rw [List.length_append]); (repeat rw [List.length_cons]); (repeat rw [List.length_nil]); omega))) (hE := zT rfl) | exact g_ldT1 hk (same _ _) (aT rfl) (hs := (by first | exact St.rdT hS (by assumption) | exact OwT.rd (hS.rd (A := OwT _ _ _) (by (repeat (first | exact At.here | apply At.there)))) | assumption)) (hi := by assumption) | exact g_ldTF hk (same _ _) (aT rfl) (hs := (by first | exact St.rdT hS (by assumption) | exact OwT.rd (hS.rd (A := OwT _ _ _) (by (repeat (first | exact At.here | apply At.there)))) | assumption)) (hi := by assumption) | exact g_ldTN hk (same _ _) (aT rfl) (hs := (by first | exact St.rdT hS (by assumption) | exact OwT.rd (hS.rd (A := OwT _ _ _) (by (repeat (first | exact At.here | apply At.there)))) | assumption)) (hi := by assumption) (hu := (by simp only [Enc.f, List.cons_append, List.nil_append]; rfl)) (hz := zT rfl) | exact g_ldTS hk (same _ _) (aT rfl) (hs := (by first | exact St.rdT hS (by assumption) | exact OwT.rd (hS.rd (A := OwT _ _ _) (by (repeat (first | exact At.here | apply At.there)))) | assumption)) (hi := by assumption) (hz := zT rfl) | exact g_ldT2 hk (same _ _) (aT rfl) (hs := (by first | exact St.rdT hS (by assumption) | exact OwT.rd (hS.rd (A := OwT _ _ _) (by (repeat (first | exact At.here | apply At.there)))) | assumption)) (hi := by assumption) | exact g_slSt hk (same _ _) (ht := sT rfl) (h0 := by omega) (h1 := by omega) | exact g_slSf hk (same _ _) (ht := sT rfl) (h0 := by omega) (h1 := by omega) | exact g_slS hk (same _ _) (ht := sT rfl) (h0 := by omega) (h1 := by omega) (h2 := by omega) | exact g_ixS0 hk (ht := sT rfl) (h1 := by assumption) (h := (same _ _)) | exact g_ixS hk (ht := sT rfl) (h1 := by assumption) (h := (same _ _)) | exact g_makeFunc hk (same _ _) | exact g_fieldV hk (same _ _) (fvT rfl) | exact g_la1 hk (same _ _) (aT rfl) (hs := (by first | exact St.rdT hS (by assumption) | exact OwT.rd (hS.rd (A := OwT _ _ _) (by (repeat (first | exact At.here | apply At.there)))) | assumption)) (hi := (by first | omega | ((repeat rw [List.length_set]); (repeat rw [List.length_append]); (repeat rw [List.length_cons]); (repeat rw [List.length_nil]); omega))) | exact g_laF hk (same _ _) (aT rfl) (hs := (by first | exact St.rdT hS (by assumption) | exact OwT.rd (hS.rd (A := OwT _ _ _) (by (repeat (first | exact At.here | apply At.there)))) | assumption)) (hi := (by first | omega | ((repeat rw [List.length_set]); (repeat rw [List.length_append]); (repeat rw [List.length_cons]); (repeat rw [List.length_nil]); omega))) | exact g_laN hk (same _ _) (aT rfl) (hs := (by first | exact St.rdT hS (by assumption) | exact OwT.rd (hS.rd (A := OwT _ _ _) (by (repeat (first | exact At.here | apply At.there)))) | assumption)) (hi := (by first | omega | ((repeat rw [List.length_set]); (repeat rw [List.length_append]); (repeat rw [List.length_cons]); (repeat rw [List.length_nil]); omega))) (hu := rfl) (hz := zT rfl) | exact g_la2 hk (same _ _) (aT rfl) (hs := (by first | exact St.rdT hS (by assumption) | exact OwT.rd (hS.rd (A := OwT _ _ _) (by (repeat (first | exact At.here | apply At.there)))) | assumption)) (hi := (by first | omega | ((repeat rw [List.length_set]); (repeat rw [List.length_append]); (repeat rw [List.length_cons]); (repeat rw [List.length_nil]); omega))) | exact g_laS hk (same _ _) (aT rfl) (hs := (by first | exact St.rdT hS (by assumption) | exact OwT.rd (hS.rd (A := OwT _ _ _) (by (repeat (first | exact At.here | apply At.there)))) | assumption)) (hi := (by first | omega | ((repeat rw [List.length_set]); (repeat rw [List.length_append]); (repeat rw [List.length_cons]); (repeat rw [List.length_nil]); omega))) (hz := zT rfl) | exact g_var1 hk (same _ _) (aT rfl) (hb := (by first | exact St.base hS (by assumption) | assumption)) | exact g_varN hk (same _ _) (aT rfl) (hb := (by first | exact St.base hS (by assumption) | assumption)) (hs := zT rfl) | exact g_ixArr hk (same _ _) (ht := arT rfl) (he := zT rfl) (h0 := by first | decide | omega) (h1 := by first | decide | omega) | exact g_buildA (same _ _) (hT := arT rfl) (he := zT rfl) (hz := oT rfl) | exact g_and7a hk (same _ _) (h0 := by omega) (h1 := by omega) | exact g_and7b hk (same _ _) (h0 := by omega) | exact g_and8a hk (same _ _) (h0 := by omega) (h1 := by omega) | exact g_and8b hk (same _ _) (h0 := by omega) | exact g_convU hk (same _ _) (ht := iT rfl) (hs := iT rfl) (h0 := by omega) (h1 := by omega) | exact g_convS hk (same _ _) (ht := iT rfl) (hs := iT rfl) (h0 := by omega) (h1 := by omega) | exact g_shr1 hk (same _ _) (hm := by decide) | fail) : ObxE df Tryz.prog n os l w0 L FinE i (o :: r) acc HR TK := obe_val h hr hg
theorem ob_eqi {p q : Int} (ht : p = q → ObxE df Tryz.prog n os l w0 L FinE (i + 1) r (pushE o.dst i (.val (.bool true)) acc) HR TK) (hf : ¬ p = q → ObxE df Tryz.prog n os l w0 L FinE (i + 1) r (pushE o.dst i (.val (.bool false)) acc) HR TK)
    (h : ∀ (us : Nat → Value) (a : Act) (w : World), Kn df n a (vwE acc l us (o.looksAt os.toArray)) → depE acc us w (o.looksAt os.toArray) → St w0 L w → Gives Tryz.prog o a w (fun v w' => v = .bool (decide (p = q)) ∧ St w [] w') := by intro us a w hk hd hS; have hk := Kn.vw hk (by repeat (first | exact VW.nil | apply VW.val rfl | apply VW.base rfl rfl | apply VW.res rfl | apply VW.upd rfl | apply VW.cpy rfl | apply VW.dep rfl | apply VW.fn rfl | apply VW.lnd rfl | apply VW.tak rfl)); exact g_eqi hk (same _ _))
    (hg : ∀ us, gdK os.toArray (vwE acc l us (o.looksAt os.toArray)) o.guard = some true := by intro us; rfl) : ObxE df Tryz.prog n os l w0 L FinE i (o :: r) acc HR TK := obe_eqi h ht hf hg
end
structure Bx (p : Prop) : Prop where o : p
section
theorem wx0 {G G' : Prop} (h : G') (r : Bx G' → G := by (intro h; (first | refine wpIn_seq ?_ | refine wpIn_block ?_ | refine wpIn_region_lit ?_ | refine q_then ?_ | refine q_thenE ?_ | refine q_thenR ?_ | refine q_inN ?_ | refine q_inR ?_ | refine q_inE ?_ | refine q_inO ?_ | refine wpIn_skip ?_ | refine wpIn_ret ?_ | refine wpIn_exit ?_ | refine c_true hk ?_ | refine c_false hk ?_ | fail); exact h.o)) : G := r ⟨h⟩
theorem wx1 {G G' : Prop} (h : G') (r : Bx G' → G := by (intro h; (first | refine st hk ?_ | refine st_skip hk ?_ | refine s_skip0 hk ?_ | fail); exact h.o)) : G := r ⟨h⟩
theorem wx2 {G G1 G2 : Prop} (h1 : G1) (h2 : G2) (r : Bx G1 → Bx G2 → G := by (intro h1 h2; (first | refine st_lss hk ?_ ?_ | refine st_leq hk ?_ ?_ | refine st_gtr hk ?_ ?_ | refine st_geq hk ?_ ?_ | refine st_eqi hk ?_ ?_ | refine st_nei hk ?_ ?_ | refine st_eqS hk ?_ ?_ | refine st_neS hk ?_ ?_ | refine st_cmpS hk ?_ ?_ | refine st_eqs hk ?_ ?_ | refine st_nes hk ?_ ?_ | fail); (exact h1.o); exact h2.o)) : G := r ⟨h1⟩ ⟨h2⟩
theorem wx3 {G G' : Prop} (h : G') (r : Bx G' → G := by (intro h; (first | refine st_box hk hS ?_ | refine st_alloc hk hS ?_ | fail); exact h.o)) : G := r ⟨h⟩
theorem wx4 {G G' : Prop} (h : G') (r : Bx G' → G := by (intro h; (first | refine st_store hk hS ?_ | refine st_stI hk hS ?_ | refine st_stB hk hS ?_ | refine st_stS hk hS ?_ | fail); exact h.o)) : G := r ⟨h⟩
theorem wx5 {G G' : Prop} (h : G') (r : Bx G' → G := by (intro h; (first | refine st_bs1I hk hS ?_ | refine st_bs1S hk hS ?_ | refine st_app1 hk hS ?_ | refine st_appE hk hS ?_ | fail); exact h.o)) : G := r ⟨h⟩
theorem wx6 {G G' : Prop} (h : G') (r : Bx G' → G := by (intro h; (first | refine st_bs1I hk hS ?_ | refine st_bs1S hk hS ?_ | refine st_app1 hk hS ?_ | fail); exact h.o)) : G := r ⟨h⟩
theorem ox1 {G G' : Prop} (h : G') (r : Bx G' → G := by (intro h; (first | refine ob_v ?_ | refine obe_skip ?_ | fail); exact h.o)) : G := r ⟨h⟩
theorem ox2 {G G1 G2 : Prop} (h1 : G1) (h2 : G2) (r : Bx G1 → Bx G2 → G := by (intro h1 h2; (first | refine ob_lss ?_ ?_ | refine ob_leq ?_ ?_ | refine ob_gtr ?_ ?_ | refine ob_geq ?_ ?_ | refine ob_eqi ?_ ?_ | refine ob_nei ?_ ?_ | refine ob_eqS ?_ ?_ | refine ob_neS ?_ ?_ | refine ob_cmpS ?_ ?_ | refine ob_eqs ?_ ?_ | refine ob_nes ?_ ?_ | fail); (exact h1.o); exact h2.o)) : G := r ⟨h1⟩ ⟨h2⟩
end
end Go.Proofs.YthodcfdgahfniaaGreat
namespace Go.Proofs.YthodcfdgahfniaaGreat
open Go.RowKit

end Go.Proofs.YthodcfdgahfniaaGreat
namespace Go.Proofs.YthodcfdgahfniaaGreat
open Go.RowKit
set_option maxRecDepth 100000
attribute [local irreducible] Go.Code.wpIn Go.wpListIn Go.Calls Gives Go.Exit.then Go.Exit.inBlock Done ObxE

def nextF (s h : Int) : Int := if s = 0 ∧ h = 1 ∨ s = 6 ∧ h = 1 then 1 else if s = 1 ∧ h = 2 then 2 else if s = 2 ∧ h = 3 ∨ s = 2 ∧ h = 4 then 3 else
  if s = 0 ∧ h = 5 ∨ s = 3 ∧ h = 5 then 4 else if s = 4 ∧ h = 6 then 5 else if s = 5 ∧ h = 7 ∨ s = 5 ∧ h = 8 then 6 else -1

set_option maxHeartbeats 1000000 in
theorem next_any (s h : Int) (w0 : World) : Calls Tryz.prog 41 #[.int .i64 s, .int .i64 h] w0 (Ret fun v w => v = .int .i64 (nextF s h) ∧ St w0 [] w) := by
  refine enter Tryz.func41 rfl Tryz.ntmps41 rfl (fun a hk => ?_); have hS := St.refl w0
  (repeat' (first | (show wpListIn _ _ _ _ _ (_ :: _) _ _; first | (refine wx1 ?_; clear hk a; intro a hk) | (refine wx2 ?_ ?_ <;> (intro hp; clear hk a; intro a hk)) | (refine wx3 ?_; clear hk hS a; intro w b hS a hk) | (refine wx4 ?_; clear hk hS a; intro w hS a hk) | (refine wx5 ?_; clear hk hS a; intro w v hS a hk) | fail) | refine wx0 ?_ | (refine s_end hk ?_; clear hk a; intro a hk) | fail))
  all_goals (refine done1 hk (h := ⟨?_, hS.nil⟩); clear hk; simp only [splice, Value.cells, List.set_cons_zero, List.set_cons_succ, eqC, Bool.and_true, Bool.and_eq_true, Bool.and_eq_false_iff, beq_iff_eq, beq_eq_false_iff_ne, ne_eq] at *; congr 1; unfold nextF; (repeat' split) <;> omega)
end Go.Proofs.YthodcfdgahfniaaGreat
namespace Go.Proofs.YthodcfdgahfniaaGreat
open Go.RowKit
set_option maxRecDepth 100000
attribute [local irreducible] Go.Code.wpIn Go.wpListIn Go.Calls Gives Go.Exit.then Go.Exit.inBlock Done ObxE

def hn : List ByteArray := [⟨#[98, 101, 102, 111, 114, 101, 45, 101, 110, 116, 101, 114]⟩, ⟨#[101, 110, 116, 101, 114]⟩, ⟨#[97, 102, 116, 101, 114, 45, 101, 110, 116, 101, 114]⟩, ⟨#[101, 110, 116, 101, 114, 45, 99, 97, 110, 99, 101, 108, 108, 101, 100]⟩, ⟨#[98, 101, 102, 111, 114, 101, 45, 108, 101, 97, 118, 101]⟩, ⟨#[108, 101, 97, 118, 101]⟩, ⟨#[97, 102, 116, 101, 114, 45, 108, 101, 97, 118, 101]⟩, ⟨#[108, 101, 97, 118, 101, 45, 99, 97, 110, 99, 101, 108, 108, 101, 100]⟩]
def nameF (h : Int) : ByteArray := if h = 1 then hn[0] else if h = 2 then hn[1] else if h = 3 then hn[2] else if h = 4 then hn[3] else if h = 5 then hn[4] else if h = 6 then hn[5] else if h = 7 then hn[6] else if h = 8 then hn[7] else ⟨#[]⟩
def NamesIn (W : World) : Prop := ∃ t, (pts 0 (hn.map Value.string) t).rd W
end Go.Proofs.YthodcfdgahfniaaGreat
namespace Go.Proofs.YthodcfdgahfniaaGreat
open Go.RowKit
set_option maxRecDepth 100000
attribute [local irreducible] Go.Code.wpIn Go.wpListIn Go.Calls Gives Go.Exit.then Go.Exit.inBlock Done ObxE

def runF : Int → List Int → Int
  | s, [] => s
  | s, h :: l => if nextF s h = -1 then -1 else runF (nextF s h) l
theorem runF_stop {s : Int} {l : List Int} {i : Nat} {h : Int} (hi : l[i]? = some h) (h1 : runF s (l.take i) ≠ -1) : runF s (l.take (i + 1)) = nextF (runF s (l.take i)) h := by
  induction l generalizing s i with
  | nil => simp at hi
  | cons x l ih =>
    cases i with
    | zero =>
      simp at hi; subst hi
      simp only [List.take_zero, List.take_succ_cons, runF]
      split
      · rename_i e; rw [e]
      · rfl
    | succ i =>
      simp only [List.take_succ_cons, runF] at h1 ⊢
      split
      · rename_i e; rw [if_pos e] at h1; exact absurd rfl h1
      · rename_i e
        rw [if_neg e] at h1
        exact ih (by simpa using hi) h1
theorem runF_dead {s : Int} {l : List Int} {i : Nat} (h : runF s (l.take i) = -1) (hs : s ≠ -1) : runF s l = -1 := by
  induction l generalizing s i with
  | nil => simp [runF] at h; exact absurd h hs
  | cons x l ih =>
    cases i with
    | zero => simp [runF] at h; exact absurd h hs
    | succ i =>
      simp only [List.take_succ_cons, runF] at h ⊢
      split
      · rfl
      · rename_i e; rw [if_neg e] at h; exact ih h e

theorem run_any (l : List Int) (va : Value) (w0 : World) (ha : SlT l va w0) (hl : l.length ≤ 1000) : Calls Tryz.prog 14 #[va] w0 (Ret fun v w => v = .int .i64 (runF 0 l) ∧ St w0 [] w) := by
  refine enter Tryz.func14 rfl Tryz.ntmps14 rfl (fun a hk => ?_); have hS := St.refl w0
  (repeat' (first | (show wpListIn _ _ _ _ _ (_ :: _) _ _; first | (refine wx1 ?_; clear hk a; intro a hk) | (refine wx2 ?_ ?_ <;> (intro hp; clear hk a; intro a hk)) | (refine wx3 ?_; clear hk hS a; intro w b hS a hk) | (refine wx4 ?_; clear hk hS a; intro w hS a hk) | (refine wx5 ?_; clear hk hS a; intro w v hS a hk) | fail) | refine wx0 ?_ | (refine s_end hk ?_; clear hk a; intro a hk) | fail))
  replace hk := Kn.kp [3, 6, 7, 8] hk
  refine wp_for l.length (fun i _ => [(3, .int .i64 (runF 0 (l.take i))), (8, .int .i64 (i : Int))]) (fun _ _ => []) (fun i _ => runF 0 (l.take i) ≠ -1) () hk (by repeat (first | exact trivial | refine ⟨rfl, ?_⟩)) hS (by simp [runF]) ?_
  clear hk hS a
  rintro i _ a w hi hk hS hF
  (repeat' (first | (show wpListIn _ _ _ _ _ (_ :: _) _ _; first | (refine wx1 ?_; clear hk a; intro a hk) | (refine wx2 ?_ ?_ <;> (intro hp; clear hk a; intro a hk)) | (refine wx3 ?_; clear hk hS a; intro w b hS a hk) | (refine wx4 ?_; clear hk hS a; intro w hS a hk) | (refine wx5 ?_; clear hk hS a; intro w v hS a hk) | fail) | refine wx0 ?_ | (refine s_end hk ?_; clear hk a; intro a hk) | fail))
  · have hil : i < l.length := by omega
    refine sg hk (g_callO hk (hf := by kernel_rfl) (hc := next_any _ _ _) (h := ?_)); clear hk a; rintro _ w ⟨rfl, hS1⟩ a hk; replace hS := hS.call0 hS1; clear hS1
    rw [← runF_stop (List.getElem?_eq_getElem hil) hF] at hk
    (repeat' (first | (show wpListIn _ _ _ _ _ (_ :: _) _ _; first | (refine wx1 ?_; clear hk a; intro a hk) | (refine wx2 ?_ ?_ <;> (intro hp; clear hk a; intro a hk)) | (refine wx3 ?_; clear hk hS a; intro w b hS a hk) | (refine wx4 ?_; clear hk hS a; intro w hS a hk) | (refine wx5 ?_; clear hk hS a; intro w v hS a hk) | fail) | refine wx0 ?_ | (refine s_end hk ?_; clear hk a; intro a hk) | fail))
    · refine done1 hk (h := ⟨?_, hS.nil⟩)
      rw [runF_dead (i := i + 1) (by assumption) (by omega)]
    · exact ⟨hil, (), hk.sd, hS, by assumption⟩
  · have : i = l.length := by omega
    subst this
    rw [List.take_of_length_le (Nat.le_refl _)] at hk
    exact done1 hk (h := ⟨rfl, hS.nil⟩)

def tab : List (Int × Int × Int) := [(0, 1, 1), (0, 5, 4), (1, 2, 2), (2, 3, 3), (2, 4, 3), (3, 5, 4), (4, 6, 5), (5, 7, 6), (5, 8, 6), (6, 1, 1)]
def row3 (t : Int × Int × Int) : List Int := [t.1, t.2.1, t.2.2]

end Go.Proofs.YthodcfdgahfniaaGreat
