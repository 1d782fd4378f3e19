/- Layer 2: numbers of digits, digits of numbers: the program and the reference. -/
import Derived.Test.YtakejjfmbgbedaaDoorWord2
import Derived.Test.YtakejjfmbgbedaaDoorShelf
import Derived.Test.YtakejjfmbgbedaaDoorL23
import Derived.Lib.AppendIntMem
import Derived.Lib.LaidTab
namespace Go.Proofs.YtakejjfmbgbedaaDoor
open Go.RowKit
set_option maxRecDepth 100000
attribute [local irreducible] Go.Code.wpIn Go.wpListIn Go.Calls Gives Go.Exit.then Go.Exit.inBlock Done ObxE

/-! ## What the texts need -/
abbrev TabW (w : World) : Prop := Lib.TabIs Tryd.prog w "internal/strconv.uint64pow10" .u64 Lib.pow10Tab
theorem TabW.mono {w w' : World} (h : TabW w) (hb : Below w.heap.size w w') : TabW w' := Lib.tabBelow_of_tabIs h w' hb
def itoS (n : Int) : ByteArray := ⟨(Lib.itoa n).toArray⟩
theorem ito_list (n : Int) : (itoS n).data.toList = Lib.itoa n := by simp [itoS]
theorem itoa_any (n : Int) (h0 : -9223372036854775808 ≤ n) (h1 : n ≤ 9223372036854775807) (w0 : World) (ht : TabW w0) :
    Calls Tryd.prog 29 #[.int .i64 n] w0 (Ret fun v w => v = .string (itoS n) ∧ St w0 [] w) :=
  Calls.mono (Tryd.strconv_Itoa n h0 h1 w0 ht) (fun _ w' ⟨he, k, os, hw⟩ => ⟨_, he, rfl, by
    subst hw
    exact (St.refl w0).new (As := []) (Lib.below_grow _ w0 (Nat.le_refl _) k os) ⟨fun _ => False, fun _ h => h.elim, trivial⟩⟩)
theorem digits_any (n : Int) (h0 : -9223372036854775808 ≤ n) (h1 : n ≤ 9223372036854775807) (w0 : World) (ht : TabW w0) :
    Calls Tryd.prog 16 #[.int .i64 n] w0 (Ret fun v w => v = .string (itoS n) ∧ St w0 [] w) := by
  refine enter Tryd.func16 rfl Tryd.ntmps16 rfl (fun a hk => ?_); have hS := St.refl w0
  (repeat' (first | (show wpListIn _ _ _ _ _ (_ :: _) _ _; first | (refine st hk ?_; clear hk a; intro a hk) | (refine st_skip hk ?_; clear hk a; intro a hk) | (refine s_skip0 hk ?_; clear hk a; intro a hk) | (first | refine st_lss hk ?_ ?_ | refine st_leq hk ?_ ?_ | refine st_gtr hk ?_ ?_ | refine st_geq hk ?_ ?_ | refine st_eqi hk ?_ ?_ | refine st_nei hk ?_ ?_ | refine st_eqS hk ?_ ?_ | refine st_neS hk ?_ ?_ | refine st_cmpS hk ?_ ?_ | refine st_eqs hk ?_ ?_ | refine st_nes hk ?_ ?_) <;> (intro hp; clear hk a; intro a hk) | (first | refine st_box hk hS ?_ | refine st_alloc hk hS ?_); clear hk hS a; intro w b hS a hk | (first | refine st_store hk hS ?_ | refine st_stI hk hS ?_ | refine st_stB hk hS ?_ | refine st_stS hk hS ?_); clear hk hS a; intro w hS a hk | (first | refine st_bs1I hk hS ?_ | refine st_bs1S hk hS ?_ | refine st_app1 hk hS ?_ | refine st_appE hk hS ?_); clear hk hS a; intro w v hS a hk | fail) | refine wpIn_seq ?_ | refine wpIn_block ?_ | refine wpIn_region_lit ?_ | refine q_then ?_ | refine q_thenE ?_ | refine q_thenR ?_ | refine q_inN ?_ | refine q_inR ?_ | refine q_inE ?_ | refine q_inO ?_ | refine wpIn_skip ?_ | refine wpIn_ret ?_ | refine wpIn_exit ?_ | (refine s_end hk ?_; clear hk a; intro a hk) | refine c_true hk ?_ | refine c_false hk ?_ | fail))
  refine sg hk (g_callO hk (hf := by kernel_rfl) (hc := itoa_any n h0 h1 _ (ht.mono hS.below)) (h := ?_)); clear hk a; rintro _ w ⟨rfl, hS1⟩ a hk; replace hS := hS.call0 hS1; clear hS1
  (repeat' (first | (show wpListIn _ _ _ _ _ (_ :: _) _ _; first | (refine st hk ?_; clear hk a; intro a hk) | (refine st_skip hk ?_; clear hk a; intro a hk) | (refine s_skip0 hk ?_; clear hk a; intro a hk) | (first | refine st_lss hk ?_ ?_ | refine st_leq hk ?_ ?_ | refine st_gtr hk ?_ ?_ | refine st_geq hk ?_ ?_ | refine st_eqi hk ?_ ?_ | refine st_nei hk ?_ ?_ | refine st_eqS hk ?_ ?_ | refine st_neS hk ?_ ?_ | refine st_cmpS hk ?_ ?_ | refine st_eqs hk ?_ ?_ | refine st_nes hk ?_ ?_) <;> (intro hp; clear hk a; intro a hk) | (first | refine st_box hk hS ?_ | refine st_alloc hk hS ?_); clear hk hS a; intro w b hS a hk | (first | refine st_store hk hS ?_ | refine st_stI hk hS ?_ | refine st_stB hk hS ?_ | refine st_stS hk hS ?_); clear hk hS a; intro w hS a hk | (first | refine st_bs1I hk hS ?_ | refine st_bs1S hk hS ?_ | refine st_app1 hk hS ?_ | refine st_appE hk hS ?_); clear hk hS a; intro w v hS a hk | fail) | refine wpIn_seq ?_ | refine wpIn_block ?_ | refine wpIn_region_lit ?_ | refine q_then ?_ | refine q_thenE ?_ | refine q_thenR ?_ | refine q_inN ?_ | refine q_inR ?_ | refine q_inE ?_ | refine q_inO ?_ | refine wpIn_skip ?_ | refine wpIn_ret ?_ | refine wpIn_exit ?_ | (refine s_end hk ?_; clear hk a; intro a hk) | refine c_true hk ?_ | refine c_false hk ?_ | fail))
  exact done1 hk (h := ⟨rfl, hS.nil⟩)

def prefB (s p : ByteArray) : Bool := decide (p.size ≤ s.size ∧ s.extract 0 p.size = p)
theorem cut36_any (s p : ByteArray) (w0 : World) : Calls Tryd.prog 36 #[.string s, .string p] w0 (Ret fun v w => v = .tuple #[.string (if prefB s p then s.extract p.size s.size else s), .bool (prefB s p)] ∧ St w0 [] w) := by
  refine enter Tryd.func36 rfl Tryd.ntmps36 rfl (fun a hk => ?_); have hS := St.refl w0
  (repeat' (first | (show wpListIn _ _ _ _ _ (_ :: _) _ _; first | (refine st hk ?_; clear hk a; intro a hk) | (refine st_skip hk ?_; clear hk a; intro a hk) | (refine s_skip0 hk ?_; clear hk a; intro a hk) | (first | refine st_lss hk ?_ ?_ | refine st_leq hk ?_ ?_ | refine st_gtr hk ?_ ?_ | refine st_geq hk ?_ ?_ | refine st_eqi hk ?_ ?_ | refine st_nei hk ?_ ?_ | refine st_eqS hk ?_ ?_ | refine st_neS hk ?_ ?_ | refine st_cmpS hk ?_ ?_ | refine st_eqs hk ?_ ?_ | refine st_nes hk ?_ ?_) <;> (intro hp; clear hk a; intro a hk) | (first | refine st_box hk hS ?_ | refine st_alloc hk hS ?_); clear hk hS a; intro w b hS a hk | (first | refine st_store hk hS ?_ | refine st_stI hk hS ?_ | refine st_stB hk hS ?_ | refine st_stS hk hS ?_); clear hk hS a; intro w hS a hk | (first | refine st_bs1I hk hS ?_ | refine st_bs1S hk hS ?_ | refine st_app1 hk hS ?_ | refine st_appE hk hS ?_); clear hk hS a; intro w v hS a hk | fail) | refine wpIn_seq ?_ | refine wpIn_block ?_ | refine wpIn_region_lit ?_ | refine q_then ?_ | refine q_thenE ?_ | refine q_thenR ?_ | refine q_inN ?_ | refine q_inR ?_ | refine q_inE ?_ | refine q_inO ?_ | refine wpIn_skip ?_ | refine wpIn_ret ?_ | refine wpIn_exit ?_ | (refine s_end hk ?_; clear hk a; intro a hk) | refine c_true hk ?_ | refine c_false hk ?_ | fail))
  refine sg hk (g_callO hk (hf := by kernel_rfl) (hc := prefix_any s p _) (h := ?_)); clear hk a; rintro _ w ⟨rfl, hS1⟩ a hk; replace hS := hS.call0 hS1; clear hS1
  cases h : prefB s p with
  | false =>
    have h' : decide (p.size ≤ s.size ∧ s.extract 0 p.size = p) = false := h
    rw [h'] at hk
    (repeat' (first | (show wpListIn _ _ _ _ _ (_ :: _) _ _; first | (refine st hk ?_; clear hk a; intro a hk) | (refine st_skip hk ?_; clear hk a; intro a hk) | (refine s_skip0 hk ?_; clear hk a; intro a hk) | (first | refine st_lss hk ?_ ?_ | refine st_leq hk ?_ ?_ | refine st_gtr hk ?_ ?_ | refine st_geq hk ?_ ?_ | refine st_eqi hk ?_ ?_ | refine st_nei hk ?_ ?_ | refine st_eqS hk ?_ ?_ | refine st_neS hk ?_ ?_ | refine st_cmpS hk ?_ ?_ | refine st_eqs hk ?_ ?_ | refine st_nes hk ?_ ?_) <;> (intro hp; clear hk a; intro a hk) | (first | refine st_box hk hS ?_ | refine st_alloc hk hS ?_); clear hk hS a; intro w b hS a hk | (first | refine st_store hk hS ?_ | refine st_stI hk hS ?_ | refine st_stB hk hS ?_ | refine st_stS hk hS ?_); clear hk hS a; intro w hS a hk | (first | refine st_bs1I hk hS ?_ | refine st_bs1S hk hS ?_ | refine st_app1 hk hS ?_ | refine st_appE hk hS ?_); clear hk hS a; intro w v hS a hk | fail) | refine wpIn_seq ?_ | refine wpIn_block ?_ | refine wpIn_region_lit ?_ | refine q_then ?_ | refine q_thenE ?_ | refine q_thenR ?_ | refine q_inN ?_ | refine q_inR ?_ | refine q_inE ?_ | refine q_inO ?_ | refine wpIn_skip ?_ | refine wpIn_ret ?_ | refine wpIn_exit ?_ | (refine s_end hk ?_; clear hk a; intro a hk) | refine c_true hk ?_ | refine c_false hk ?_ | fail))
    exact done2 hk (h := ⟨by simp, hS.nil⟩)
  | true =>
    have h' : decide (p.size ≤ s.size ∧ s.extract 0 p.size = p) = true := h
    rw [h'] at hk
    have hp : p.size ≤ s.size := (of_decide_eq_true h').1
    (repeat' (first | (show wpListIn _ _ _ _ _ (_ :: _) _ _; first | (refine st hk ?_; clear hk a; intro a hk) | (refine st_skip hk ?_; clear hk a; intro a hk) | (refine s_skip0 hk ?_; clear hk a; intro a hk) | (first | refine st_lss hk ?_ ?_ | refine st_leq hk ?_ ?_ | refine st_gtr hk ?_ ?_ | refine st_geq hk ?_ ?_ | refine st_eqi hk ?_ ?_ | refine st_nei hk ?_ ?_ | refine st_eqS hk ?_ ?_ | refine st_neS hk ?_ ?_ | refine st_cmpS hk ?_ ?_ | refine st_eqs hk ?_ ?_ | refine st_nes hk ?_ ?_) <;> (intro hp; clear hk a; intro a hk) | (first | refine st_box hk hS ?_ | refine st_alloc hk hS ?_); clear hk hS a; intro w b hS a hk | (first | refine st_store hk hS ?_ | refine st_stI hk hS ?_ | refine st_stB hk hS ?_ | refine st_stS hk hS ?_); clear hk hS a; intro w hS a hk | (first | refine st_bs1I hk hS ?_ | refine st_bs1S hk hS ?_ | refine st_app1 hk hS ?_ | refine st_appE hk hS ?_); clear hk hS a; intro w v hS a hk | fail) | refine wpIn_seq ?_ | refine wpIn_block ?_ | refine wpIn_region_lit ?_ | refine q_then ?_ | refine q_thenE ?_ | refine q_thenR ?_ | refine q_inN ?_ | refine q_inR ?_ | refine q_inE ?_ | refine q_inO ?_ | refine wpIn_skip ?_ | refine wpIn_ret ?_ | refine wpIn_exit ?_ | (refine s_end hk ?_; clear hk a; intro a hk) | refine c_true hk ?_ | refine c_false hk ?_ | fail))
    exact done2 hk (h := ⟨by simp, hS.nil⟩)
theorem cutPrefix_any (s p : ByteArray) (w0 : World) : Calls Tryd.prog 26 #[.string s, .string p] w0 (Ret fun v w => v = .tuple #[.string (if prefB s p then s.extract p.size s.size else s), .bool (prefB s p)] ∧ St w0 [] w) := by
  refine enter Tryd.func26 rfl Tryd.ntmps26 rfl (fun a hk => ?_); have hS := St.refl w0
  (repeat' (first | (show wpListIn _ _ _ _ _ (_ :: _) _ _; first | (refine st hk ?_; clear hk a; intro a hk) | (refine st_skip hk ?_; clear hk a; intro a hk) | (refine s_skip0 hk ?_; clear hk a; intro a hk) | (first | refine st_lss hk ?_ ?_ | refine st_leq hk ?_ ?_ | refine st_gtr hk ?_ ?_ | refine st_geq hk ?_ ?_ | refine st_eqi hk ?_ ?_ | refine st_nei hk ?_ ?_ | refine st_eqS hk ?_ ?_ | refine st_neS hk ?_ ?_ | refine st_cmpS hk ?_ ?_ | refine st_eqs hk ?_ ?_ | refine st_nes hk ?_ ?_) <;> (intro hp; clear hk a; intro a hk) | (first | refine st_box hk hS ?_ | refine st_alloc hk hS ?_); clear hk hS a; intro w b hS a hk | (first | refine st_store hk hS ?_ | refine st_stI hk hS ?_ | refine st_stB hk hS ?_ | refine st_stS hk hS ?_); clear hk hS a; intro w hS a hk | (first | refine st_bs1I hk hS ?_ | refine st_bs1S hk hS ?_ | refine st_app1 hk hS ?_ | refine st_appE hk hS ?_); clear hk hS a; intro w v hS a hk | fail) | refine wpIn_seq ?_ | refine wpIn_block ?_ | refine wpIn_region_lit ?_ | refine q_then ?_ | refine q_thenE ?_ | refine q_thenR ?_ | refine q_inN ?_ | refine q_inR ?_ | refine q_inE ?_ | refine q_inO ?_ | refine wpIn_skip ?_ | refine wpIn_ret ?_ | refine wpIn_exit ?_ | (refine s_end hk ?_; clear hk a; intro a hk) | refine c_true hk ?_ | refine c_false hk ?_ | fail))
  refine sg hk (g_callO hk (hf := by kernel_rfl) (hc := cut36_any s p _) (h := ?_)); clear hk a; rintro _ w ⟨rfl, hS1⟩ a hk; replace hS := hS.call0 hS1; clear hS1
  (repeat' (first | (show wpListIn _ _ _ _ _ (_ :: _) _ _; first | (refine st hk ?_; clear hk a; intro a hk) | (refine st_skip hk ?_; clear hk a; intro a hk) | (refine s_skip0 hk ?_; clear hk a; intro a hk) | (first | refine st_lss hk ?_ ?_ | refine st_leq hk ?_ ?_ | refine st_gtr hk ?_ ?_ | refine st_geq hk ?_ ?_ | refine st_eqi hk ?_ ?_ | refine st_nei hk ?_ ?_ | refine st_eqS hk ?_ ?_ | refine st_neS hk ?_ ?_ | refine st_cmpS hk ?_ ?_ | refine st_eqs hk ?_ ?_ | refine st_nes hk ?_ ?_) <;> (intro hp; clear hk a; intro a hk) | (first | refine st_box hk hS ?_ | refine st_alloc hk hS ?_); clear hk hS a; intro w b hS a hk | (first | refine st_store hk hS ?_ | refine st_stI hk hS ?_ | refine st_stB hk hS ?_ | refine st_stS hk hS ?_); clear hk hS a; intro w hS a hk | (first | refine st_bs1I hk hS ?_ | refine st_bs1S hk hS ?_ | refine st_app1 hk hS ?_ | refine st_appE hk hS ?_); clear hk hS a; intro w v hS a hk | fail) | refine wpIn_seq ?_ | refine wpIn_block ?_ | refine wpIn_region_lit ?_ | refine q_then ?_ | refine q_thenE ?_ | refine q_thenR ?_ | refine q_inN ?_ | refine q_inR ?_ | refine q_inE ?_ | refine q_inO ?_ | refine wpIn_skip ?_ | refine wpIn_ret ?_ | refine wpIn_exit ?_ | (refine s_end hk ?_; clear hk a; intro a hk) | refine c_true hk ?_ | refine c_false hk ?_ | fail))
  exact done2 hk (h := ⟨rfl, hS.nil⟩)

/-! ## Bytes of a text -/
instance encBy : Enc UInt8 := ⟨0, fun x => [.int .u8 (x.toNat : Nat)], fun _ => rfl, fun _ u h => by rw [List.mem_singleton] at h; subst h; rfl⟩
def bysF (s : ByteArray) : List UInt8 := s.data.toList
theorem bys_len (s : ByteArray) : (bysF s).length = s.size := by simp [bysF]
theorem enc_bys : ∀ l : List UInt8, enc l = l.map (fun b => Value.int .u8 (b.toNat : Nat))
  | [] => rfl
  | b :: l => by rw [enc_cons, enc_bys l]; rfl
theorem bys_rd {w : World} {b : Nat} {s : ByteArray} {cap : Nat} {e : TypeId} {fr : Nat × Nat} (h : w.heap[b]? = some (.cells (bytesRow s cap) e fr)) (hc : s.size ≤ cap) (hm : cap ≤ maxLen) : SlT (bysF s) (.slice (some ⟨b, 0, none⟩) s.size cap) w := by
  refine ⟨by rw [enc_len], by rw [bys_len]; omega, .inr ⟨⟨b, 0, none⟩, cap, by rw [bys_len], by rw [bys_len]; exact hc, hm, fun j u hj => ⟨rfl, ?_⟩⟩⟩
  unfold bysF at hj
  rw [enc_bys, List.getElem?_map] at hj
  unfold World.cell?
  simp only [Nat.zero_add]
  rw [h]
  simp only
  have hjs : j < s.data.toList.length := by
    rcases Nat.lt_or_ge j s.data.toList.length with g | g
    · exact g
    · rw [List.getElem?_eq_none g] at hj; cases hj
  rw [List.getElem?_eq_getElem hjs] at hj
  simp only [Option.map_some, Option.some.injEq] at hj
  have hjs' : j < s.data.size := by simpa using hjs
  unfold bytesRow
  rw [Array.getElem?_append_left (by simpa using hjs')]
  simp only [← hj]
  simp
  exact ⟨s.data[j], Array.getElem?_eq_getElem hjs', rfl⟩

section
variable {P : Program} {a : Act} {w w' : World} {w0 : Bs} {n : Nat} {l : List (Nat × Value)} {L : List HP} {df : List Deferred}
  {dst : Option Nat} {R : Value → World → Prop} {ty : TypeId} {pos : String} {af : Array Edge} {g : Option (Nat × Bool)}
theorem g_bytes {x : Operand} {t t' e : TypeId} {s : ByteArray} (hk : Kn df n a l) (hS : St w0 L w) (hs : s.size ≤ maxLen)
    (h : ∀ w' b cap fr, s.size ≤ cap → cap ≤ maxLen → St w0 (obj b (.cells (bytesRow s cap) e fr) :: L) w' → R (.slice (some ⟨b, 0, none⟩) s.size cap) w')
    (ht : P.underlying t = some .string) (hd : elOf P t' = some e) (he : P.underlying e = some (.int .u8)) (hx : ev l x = some (.string s) := by rfl) :
    Gives P ⟨dst, .convert t t' x, ty, pos, af, g⟩ a w R := by
  have hr := run_bytes_of_string (P := P) w t t' e s ht (elOf_und hd) he
  have key := h _ _ _ _ (grownCap_ge w s.size 0 e) (grownCap_le_maxLen w s.size 0 e hs) (hS.drew.newObj (.cells (bytesRow s (grownCap w s.size 0 e)) e ((bytesRow s (grownCap w s.size 0 e)).size, (bytesRow s (grownCap w s.size 0 e)).size + 1)))
  refine givesv (v := .slice (some ⟨w.heap.size, 0, none⟩) s.size (grownCap w s.size 0 e)) ?_ key
  simp [execOp, hk.eval hx, hr]
theorem g_subB {x y : Operand} {t t' : TypeId} {p q : Int} (hk : Kn df n a l) (h : R (.int .u8 (p - q)) w)
    (hx : ev l x = some (.int .u8 p) := by rfl) (hy : ev l y = some (.int .u8 q) := by rfl)
    (hlo : 0 ≤ p - q) (hhi : p - q ≤ 255) :
    Gives P ⟨dst, .binOp .sub t x y t', ty, pos, af, g⟩ a w R :=
  givesv (v := .int .u8 (p - q)) (by
    have e : IntKind.u8.wrap (p - q) = p - q := by
      have : IntKind.u8.wrap (p - q) = (p - q) % 256 := rfl
      rw [this]; omega
    simp [execOp, hk.eval hx, hk.eval hy, eqGuard, binOp_sub, Op.intArith, e]) h
theorem g_negW {x : Operand} {t : TypeId} {p : Int} (hk : Kn df n a l) (h : R (.int .i64 (-p)) w) (hx : ev l x = some (.int .i64 p) := by rfl) (hlo : -9223372036854775807 ≤ p) (hhi : p ≤ 9223372036854775807) :
    Gives P ⟨dst, .unOp .neg t x, ty, pos, af, g⟩ a w R :=
  givesv (v := .int .i64 (-p)) (by
    have e : IntKind.i64.wrap (0 - p) = -p := by rw [IntWalk.i64_in _ ⟨by omega, by omega⟩]; omega
    simp [execOp, hk.eval hx, Op.unary, Op.intArith]
    simpa using e) h
end

/-! ## Lists and texts -/
theorem ext_list (s : ByteArray) (i j : Nat) : (s.extract i j).data.toList = (s.data.toList.take j).drop i := by
  simp [ByteArray.data_extract, Array.toList_extract, List.drop_take]
theorem pref_sgn (s : ByteArray) : prefB s ⟨#[45]⟩ = sgnL s.data.toList := by
  unfold prefB sgnL
  have e1 : (⟨#[45]⟩ : ByteArray).size = 1 := rfl
  rw [e1]
  have h2 : s.extract 0 1 = ⟨#[45]⟩ ↔ s.data.toList.take 1 = [45] := by
    constructor
    · intro h
      have := congrArg (fun x : ByteArray => x.data.toList) h
      simp only [ext_list, List.drop_zero] at this
      exact this
    · intro h
      have := ext_list s 0 1
      rw [List.drop_zero, h] at this
      cases hx : s.extract 0 1 with
      | mk d => rw [hx] at this; congr 1; exact Array.toList_inj.1 this
  have hsz : s.size = s.data.toList.length := by simp
  cases hl : s.data.toList with
  | nil =>
    rw [hl] at hsz
    simp at hsz
    simp [hsz]
  | cons x r =>
    rw [hl] at h2 hsz
    simp only [List.take_succ_cons, List.take_zero, List.cons.injEq, and_true] at h2
    simp only [List.length_cons] at hsz
    simp only [List.head?_cons, Option.some.injEq]
    by_cases e : x = 45
    · simp [h2.2 e, e, hsz]
    · have : ¬ s.extract 0 1 = ⟨#[45]⟩ := fun h => e (h2.1 h)
      simp [this, e]
def digS (s : ByteArray) : ByteArray := if prefB s ⟨#[45]⟩ then s.extract 1 s.size else s
theorem dig_list (s : ByteArray) : (digS s).data.toList = digL s.data.toList := by
  unfold digS digL
  rw [pref_sgn]
  cases sgnL s.data.toList with
  | true =>
    simp only [if_true]
    rw [ext_list, List.take_of_length_le (by simp), List.drop_one]
  | false => rfl
theorem val_lt : ∀ (n : Nat) (l : List UInt8), l.length = n → l.all digB = true → valL l < 10 ^ n
  | 0, l, hl, _ => by rw [List.eq_nil_of_length_eq_zero hl]; decide
  | n + 1, l, hl, hd => by
    rcases List.eq_nil_or_concat l with rfl | ⟨e, b, rfl⟩
    · simp at hl
    · rw [List.concat_eq_append] at *
      rw [List.all_append] at hd
      simp only [Bool.and_eq_true, List.all_cons, List.all_nil, Bool.and_true, digB, decide_eq_true_eq] at hd
      have ih := val_lt n e (by simp at hl; exact hl) hd.1
      rw [val_snoc, Nat.pow_succ]
      omega
theorem val_small {l : List UInt8} (hl : l.length ≤ 10) (hd : l.all digB = true) : valL l < 10000000000 := by
  have h1 := val_lt _ l rfl hd
  have h2 : 10 ^ l.length ≤ 10 ^ 10 := Nat.pow_le_pow_right (by omega) hl
  exact Nat.lt_of_lt_of_le h1 (Nat.le_trans h2 (by decide))
theorem val_take {s : ByteArray} {i : Nat} (h : i < s.size) : valL (s.data.toList.take (i + 1)) = 10 * valL (s.data.toList.take i) + (s[i].toNat - 48) := by
  rw [List.take_add_one, byte_at h]
  exact val_snoc _ _
theorem dig_at {s : ByteArray} {i : Nat} (h : i < s.size) (hd : s.data.toList.all digB = true) : 48 ≤ s[i].toNat ∧ s[i].toNat ≤ 57 := by
  have := List.all_eq_true.1 hd _ (List.mem_of_getElem? (byte_at h))
  simpa [digB] using this
theorem all_tk {s : ByteArray} {i : Nat} (hd : s.data.toList.all digB = true) : (s.data.toList.take i).all digB = true :=
  List.all_eq_true.2 fun x hx => List.all_eq_true.1 hd x (List.mem_of_mem_take hx)
end Go.Proofs.YtakejjfmbgbedaaDoor
