/- Layer 2: signs, bytes of a text, digits' values. Layer 8: the program's reader: a word; a text cut at a byte; a text between quotes. Layer 8: the document's cut. Layer 8: the program's reader: a text between quotes. Layer 2: of digits the number. Layer 8: the program's reader: what was seen of an element's words; its attributes and styles. -/
import Derived.Test.YtnjmonkehjlaoaaGreatDoorG16
import Derived.Test.YtnjmonkehjlaoaaGreatDoorG09
import Derived.Test.YtnjmonkehjlaoaaGreatDoorG12
import Derived.Test.YtnjmonkehjlaoaaGreatDoorG08
set_option linter.all false
namespace Go.Proofs.YtnjmonkehjlaoaaGreatDoor
open Go.RowKit
set_option maxRecDepth 100000
attribute [local irreducible] Go.Code.wpIn Go.wpListIn Go.Calls Gives Go.Exit.then Go.Exit.inBlock Done ObxE
def prefB (s p : ByteArray) : Bool := decide (p.size ≤ s.size ∧ s.extract 0 p.size = p)
theorem cut36_any (s p : ByteArray) (w0 : World) : Calls Tryz.prog 163 #[.string s, .string p] w0 (Ret fun v w => v = .tuple #[.string (if prefB s p then s.extract p.size s.size else s), .bool (prefB s p)] ∧ St w0 [] w) := by
 refine enter Tryz.func163 rfl Tryz.ntmps163 rfl (fun a hk => ?_);have hS := St.refl w0
 (repeat' (first|((first|refine wx1 ?_|refine wx2 ?_ ?_<;>intro hp|refine s_end hk ?_)<;>(clear hk a;intro a hk))|((first|refine wx3 ?_;intro w b|refine wx4 ?_;intro w|refine wx5 ?_;intro w v);clear hk hS a;intro hS a hk)|refine wx0 ?_|fail))
 refine sg hk (g_callO hk (hf := by kernel_rfl) (hc := prefix_any s p _) (h := ?_));clear hk a;rintro _ w ⟨rfl, hS1⟩ a hk;replace hS := hS.call0 hS1;clear hS1
 cases h : prefB s p with
 | false =>
  have h' : decide (p.size ≤ s.size ∧ s.extract 0 p.size = p) = false := h
  rw [h'] at hk
  (repeat' (first|((first|refine wx1 ?_|refine wx2 ?_ ?_<;>intro hp|refine s_end hk ?_)<;>(clear hk a;intro a hk))|((first|refine wx3 ?_;intro w b|refine wx4 ?_;intro w|refine wx5 ?_;intro w v);clear hk hS a;intro hS a hk)|refine wx0 ?_|fail))
  exact done2 hk (h := ⟨by simp, hS.nil⟩)
 | true =>
  have h' : decide (p.size ≤ s.size ∧ s.extract 0 p.size = p) = true := h
  rw [h'] at hk
  have hp : p.size ≤ s.size := (of_decide_eq_true h').1
  (repeat' (first|((first|refine wx1 ?_|refine wx2 ?_ ?_<;>intro hp|refine s_end hk ?_)<;>(clear hk a;intro a hk))|((first|refine wx3 ?_;intro w b|refine wx4 ?_;intro w|refine wx5 ?_;intro w v);clear hk hS a;intro hS a hk)|refine wx0 ?_|fail))
  exact done2 hk (h := ⟨by simp, hS.nil⟩)
theorem cutPrefix_any (s p : ByteArray) (w0 : World) : Calls Tryz.prog 143 #[.string s, .string p] w0 (Ret fun v w => v = .tuple #[.string (if prefB s p then s.extract p.size s.size else s), .bool (prefB s p)] ∧ St w0 [] w) := by
 refine enter Tryz.func143 rfl Tryz.ntmps143 rfl (fun a hk => ?_);have hS := St.refl w0
 (repeat' (first|((first|refine wx1 ?_|refine wx2 ?_ ?_<;>intro hp|refine s_end hk ?_)<;>(clear hk a;intro a hk))|((first|refine wx3 ?_;intro w b|refine wx4 ?_;intro w|refine wx5 ?_;intro w v);clear hk hS a;intro hS a hk)|refine wx0 ?_|fail))
 refine sg hk (g_callO hk (hf := by kernel_rfl) (hc := cut36_any s p _) (h := ?_));clear hk a;rintro _ w ⟨rfl, hS1⟩ a hk;replace hS := hS.call0 hS1;clear hS1
 (repeat' (first|((first|refine wx1 ?_|refine wx2 ?_ ?_<;>intro hp|refine s_end hk ?_)<;>(clear hk a;intro a hk))|((first|refine wx3 ?_;intro w b|refine wx4 ?_;intro w|refine wx5 ?_;intro w v);clear hk hS a;intro hS a hk)|refine wx0 ?_|fail))
 exact done2 hk (h := ⟨rfl, hS.nil⟩)
instance encBy : Enc UInt8 := ⟨0, fun x => [.int .u8 (x.toNat : Nat)], fun _ => rfl, fun _ u h => by rw [List.mem_singleton] at h; subst h; rfl⟩
def bysF (s : ByteArray) : List UInt8 := s.data.toList
theorem bys_len (s : ByteArray) : (bysF s).length = s.size := by simp [bysF]
theorem enc_bys : ∀ l : List UInt8, enc l = l.map (fun b => Value.int .u8 (b.toNat : Nat))
 | [] => rfl
 | b :: l => by rw [enc_cons, enc_bys l];rfl
theorem bys_rd {w : World} {b : Nat} {s : ByteArray} {cap : Nat} {e : TypeId} {fr : Nat × Nat} (h : w.heap[b]? = some (.cells (bytesRow s cap) e fr)) (hc : s.size ≤ cap) (hm : cap ≤ maxLen) : SlT (bysF s) (.slice (some ⟨b, 0, none⟩) s.size cap) w := by
 refine ⟨by rw [enc_len], by rw [bys_len];omega, .inr ⟨⟨b, 0, none⟩, cap, by rw [bys_len], by rw [bys_len];exact hc, hm, fun j u hj => ⟨rfl, ?_⟩⟩⟩
 unfold bysF at hj
 rw [enc_bys, List.getElem?_map] at hj
 unfold World.cell?
 simp only [Nat.zero_add]
 rw [h]
 simp only
 have hjs : j < s.data.toList.length := by
  rcases Nat.lt_or_ge j s.data.toList.length with g | g
  ·exact g
  ·rw [List.getElem?_eq_none g] at hj;cases hj
 rw [List.getElem?_eq_getElem hjs] at hj
 simp only [Option.map_some, Option.some.injEq] at hj
 have hjs' : j < s.data.size := by simpa using hjs
 unfold bytesRow
 rw [Array.getElem?_append_left (by simpa using hjs')]
 simp only [← hj]
 simp
 exact ⟨s.data[j], Array.getElem?_eq_getElem hjs', rfl⟩
section
variable {P : Program} {a : Act} {w w' : World} {w0 : Bs} {n : Nat} {l : List (Nat × Value)} {L : List HP} {df : List Deferred}
 {dst : Option Nat} {R : Value → World → Prop} {ty : TypeId} {pos : String} {af : Array Edge} {g : Option (Nat × Bool)}
theorem g_bytes {x : Operand} {t t' e : TypeId} {s : ByteArray} (hk : Kn df n a l) (hS : St w0 L w) (hs : s.size ≤ maxLen)
  (h : ∀ w' b cap fr, s.size ≤ cap → cap ≤ maxLen → St w0 (obj b (.cells (bytesRow s cap) e fr) :: L) w' → R (.slice (some ⟨b, 0, none⟩) s.size cap) w')
  (ht : P.underlying t = some .string) (hd : elOf P t' = some e) (he : P.underlying e = some (.int .u8)) (hx : ev l x = some (.string s) := by rfl) :
  Gives P ⟨dst, .convert t t' x, ty, pos, af, g⟩ a w R := by
 have hr := run_bytes_of_string (P := P) w t t' e s ht (elOf_und hd) he
 have key := h _ _ _ _ (grownCap_ge w s.size 0 e) (grownCap_le_maxLen w s.size 0 e hs) (hS.drew.newObj (.cells (bytesRow s (grownCap w s.size 0 e)) e ((bytesRow s (grownCap w s.size 0 e)).size, (bytesRow s (grownCap w s.size 0 e)).size + 1)))
 refine givesv (v := .slice (some ⟨w.heap.size, 0, none⟩) s.size (grownCap w s.size 0 e)) ?_ key
 simp [execOp, hk.eval hx, hr]
theorem g_subB {x y : Operand} {t t' : TypeId} {p q : Int} (hk : Kn df n a l) (h : R (.int .u8 (p - q)) w)
  (hx : ev l x = some (.int .u8 p) := by rfl) (hy : ev l y = some (.int .u8 q) := by rfl)
  (hlo : 0 ≤ p - q) (hhi : p - q ≤ 255) :
  Gives P ⟨dst, .binOp .sub t x y t', ty, pos, af, g⟩ a w R :=
 givesv (v := .int .u8 (p - q)) (by
  have e : IntKind.u8.wrap (p - q) = p - q := by
   have : IntKind.u8.wrap (p - q) = (p - q) % 256 := rfl
   rw [this];omega
  simp [execOp, hk.eval hx, hk.eval hy, eqGuard, binOp_sub, Op.intArith, e]) h
theorem g_negW {x : Operand} {t : TypeId} {p : Int} (hk : Kn df n a l) (h : R (.int .i64 (-p)) w) (hx : ev l x = some (.int .i64 p) := by rfl) (hlo : -9223372036854775807 ≤ p) (hhi : p ≤ 9223372036854775807) :
  Gives P ⟨dst, .unOp .neg t x, ty, pos, af, g⟩ a w R :=
 givesv (v := .int .i64 (-p)) (by
  have e : IntKind.i64.wrap (0 - p) = -p := by rw [IntWalk.i64_in _ ⟨by omega, by omega⟩];omega
  simp [execOp, hk.eval hx, Op.unary, Op.intArith]
  simpa using e) h
end
theorem ext_list (s : ByteArray) (i j : Nat) : (s.extract i j).data.toList = (s.data.toList.take j).drop i := by
 simp [ByteArray.data_extract, Array.toList_extract, List.drop_take]
theorem pref_sgn (s : ByteArray) : prefB s ⟨#[45]⟩ = sgnL s.data.toList := by
 unfold prefB sgnL
 have e1 : (⟨#[45]⟩ : ByteArray).size = 1 := rfl
 rw [e1]
 have h2 : s.extract 0 1 = ⟨#[45]⟩ ↔ s.data.toList.take 1 = [45] := by
  constructor
  ·intro h
   have := congrArg (fun x : ByteArray => x.data.toList) h
   simp only [ext_list, List.drop_zero] at this
   exact this
  ·intro h
   have := ext_list s 0 1
   rw [List.drop_zero, h] at this
   cases hx : s.extract 0 1 with
   | mk d => rw [hx] at this;congr 1;exact Array.toList_inj.1 this
 have hsz : s.size = s.data.toList.length := by simp
 cases hl : s.data.toList with
 | nil =>
  rw [hl] at hsz
  simp at hsz
  simp [hsz]
 | cons x r =>
  rw [hl] at h2 hsz
  simp only [List.take_succ_cons, List.take_zero, List.cons.injEq, and_true] at h2
  simp only [List.length_cons] at hsz
  simp only [List.head?_cons, Option.some.injEq]
  by_cases e : x = 45
  ·simp [h2.2 e, e, hsz]
  ·have : ¬ s.extract 0 1 = ⟨#[45]⟩ := fun h => e (h2.1 h)
   simp [this, e]
def digS (s : ByteArray) : ByteArray := if prefB s ⟨#[45]⟩ then s.extract 1 s.size else s
theorem dig_list (s : ByteArray) : (digS s).data.toList = digL s.data.toList := by
 unfold digS digL
 rw [pref_sgn]
 cases sgnL s.data.toList with
 | true =>
  simp only [if_true]
  rw [ext_list, List.take_of_length_le (by simp), List.drop_one]
 | false => rfl
theorem val_lt : ∀ (n : Nat) (l : List UInt8), l.length = n → l.all digB = true → valL l < 10 ^ n
 | 0, l, hl, _ => by rw [List.eq_nil_of_length_eq_zero hl];decide
 | n + 1, l, hl, hd => by
  rcases List.eq_nil_or_concat l with rfl | ⟨e, b, rfl⟩
  ·simp at hl
  ·rw [List.concat_eq_append] at *
   rw [List.all_append] at hd
   simp only [Bool.and_eq_true, List.all_cons, List.all_nil, Bool.and_true, digB, decide_eq_true_eq] at hd
   have ih := val_lt n e (by simp at hl;exact hl) hd.1
   rw [val_snoc, Nat.pow_succ]
   omega
theorem val_small {l : List UInt8} (hl : l.length ≤ 10) (hd : l.all digB = true) : valL l < 10000000000 := by
 have h1 := val_lt _ l rfl hd
 have h2 : 10 ^ l.length ≤ 10 ^ 10 := Nat.pow_le_pow_right (by omega) hl
 exact Nat.lt_of_lt_of_le h1 (Nat.le_trans h2 (by decide))
theorem val_take {s : ByteArray} {i : Nat} (h : i < s.size) : valL (s.data.toList.take (i + 1)) = 10 * valL (s.data.toList.take i) + (s[i].toNat - 48) := by
 rw [List.take_add_one, byte_at h]
 exact val_snoc _ _
theorem dig_at {s : ByteArray} {i : Nat} (h : i < s.size) (hd : s.data.toList.all digB = true) : 48 ≤ s[i].toNat ∧ s[i].toNat ≤ 57 := by
 have := List.all_eq_true.1 hd _ (List.mem_of_getElem? (byte_at h))
 simpa [digB] using this
theorem all_tk {s : ByteArray} {i : Nat} (hd : s.data.toList.all digB = true) : (s.data.toList.take i).all digB = true :=
 List.all_eq_true.2 fun x hx => List.all_eq_true.1 hd x (List.mem_of_mem_take hx)
end Go.Proofs.YtnjmonkehjlaoaaGreatDoor
namespace Go.Proofs.YtnjmonkehjlaoaaGreatDoor
open Go.RowKit
set_option maxRecDepth 100000
attribute [local irreducible] Go.Code.wpIn Go.wpListIn Go.Calls Gives Go.Exit.then Go.Exit.inBlock Done ObxE
theorem index1_any (s : ByteArray) (c : UInt8) (w0 : World) : Calls Tryz.prog 141 #[.string s, .string ⟨#[c]⟩] w0 (Ret fun v w => v = .int .i64 (if scan (notB c) s 0 < s.size then ((scan (notB c) s 0 : Nat) : Int) else -1) ∧ St w0 [] w) := by
 refine (Tryz.stringslite_Index_one s c w0).mono (fun e w h => ?_)
 obtain ⟨rfl, rfl⟩ := h
 have h1 := idx_scan c s _ 0 (Nat.le_refl _) (Nat.zero_le _)
 rw [List.drop_zero] at h1
 refine ⟨_, rfl, ?_, St.refl w⟩
 rw [h1]
 by_cases h : scan (notB c) s 0 < s.size
 ·rw [if_pos h, if_pos h];simp
 ·rw [if_neg h, if_neg h]
theorem cut37_any (s : ByteArray) (c : UInt8) (hs : s.size ≤ 100000000) (w0 : World) : Calls Tryz.prog 109 #[.string s, .string ⟨#[c]⟩] w0 (Ret fun v w => v = .tuple #[.string (cutR c s).1, .string (cutR c s).2.1, .bool (cutR c s).2.2] ∧ St w0 [] w) := by
 refine enter Tryz.func109 rfl Tryz.ntmps109 rfl (fun a hk => ?_);have hS := St.refl w0
 (repeat' (first|((first|refine wx1 ?_|refine wx2 ?_ ?_<;>intro hp|refine s_end hk ?_)<;>(clear hk a;intro a hk))|((first|refine wx3 ?_;intro w b|refine wx4 ?_;intro w|refine wx5 ?_;intro w v);clear hk hS a;intro hS a hk)|refine wx0 ?_|fail))
 refine sg hk (g_callO hk (hf := by kernel_rfl) (hc := index1_any s c _) (h := ?_));clear hk a;rintro _ w ⟨rfl, hS1⟩ a hk;replace hS := hS.call0 hS1;clear hS1
 unfold cutR
 by_cases h : scan (notB c) s 0 < s.size
 ·rw [if_pos h] at hk
  rw [if_pos h]
  generalize scan (notB c) s 0 = j at *
  have h1 : (⟨#[c]⟩ : ByteArray).size = 1 := rfl
  (repeat' (first|((first|refine wx1 ?_|refine wx2 ?_ ?_<;>intro hp|refine s_end hk ?_)<;>(clear hk a;intro a hk))|((first|refine wx3 ?_;intro w b|refine wx4 ?_;intro w|refine wx5 ?_;intro w v);clear hk hS a;intro hS a hk)|refine wx0 ?_|fail))
  refine wp_drawn 10 mixed (by kernel_rfl) hk hS ?_;clear hk hS a
  (repeat' (first|(show ObxE _ _ _ _ _ _ _ _ _ (_::_) _ _ _;first|refine ox1 ?_|refine ox2 ?_ ?_<;>intro hp)|fail))
  refine obe_nil ⟨rfl, ?_⟩;intro us a w hk hS
  (repeat' (first|((first|refine wx1 ?_|refine wx2 ?_ ?_<;>intro hp|refine s_end hk ?_)<;>(clear hk a;intro a hk))|((first|refine wx3 ?_;intro w b|refine wx4 ?_;intro w|refine wx5 ?_;intro w v);clear hk hS a;intro hS a hk)|refine wx0 ?_|fail))
  exact done3R hk rfl (.tmp rfl) (.tmp rfl) (.tmp rfl) (h := ⟨rfl, hS⟩)
 ·rw [if_neg h] at hk
  rw [if_neg h]
  (repeat' (first|((first|refine wx1 ?_|refine wx2 ?_ ?_<;>intro hp|refine s_end hk ?_)<;>(clear hk a;intro a hk))|((first|refine wx3 ?_;intro w b|refine wx4 ?_;intro w|refine wx5 ?_;intro w v);clear hk hS a;intro hS a hk)|refine wx0 ?_|fail))
  exact done3R hk rfl (.tmp rfl) (.tmp rfl) (.tmp rfl) (h := ⟨rfl, hS⟩)
theorem scut_any (s : ByteArray) (c : UInt8) (hs : s.size ≤ 100000000) (w0 : World) : Calls Tryz.prog 73 #[.string s, .string ⟨#[c]⟩] w0 (Ret fun v w => v = .tuple #[.string (cutR c s).1, .string (cutR c s).2.1, .bool (cutR c s).2.2] ∧ St w0 [] w) := by
 refine enter Tryz.func73 rfl Tryz.ntmps73 rfl (fun a hk => ?_);have hS := St.refl w0
 (repeat' (first|((first|refine wx1 ?_|refine wx2 ?_ ?_<;>intro hp|refine s_end hk ?_)<;>(clear hk a;intro a hk))|((first|refine wx3 ?_;intro w b|refine wx4 ?_;intro w|refine wx5 ?_;intro w v);clear hk hS a;intro hS a hk)|refine wx0 ?_|fail))
 refine sg hk (g_callO hk (hf := by kernel_rfl) (hc := cut37_any s c hs _) (h := ?_));clear hk a;rintro _ w ⟨rfl, hS1⟩ a hk;replace hS := hS.call0 hS1;clear hS1
 (repeat' (first|((first|refine wx1 ?_|refine wx2 ?_ ?_<;>intro hp|refine s_end hk ?_)<;>(clear hk a;intro a hk))|((first|refine wx3 ?_;intro w b|refine wx4 ?_;intro w|refine wx5 ?_;intro w v);clear hk hS a;intro hS a hk)|refine wx0 ?_|fail))
 exact done3R hk rfl (.tmp rfl) (.tmp rfl) (.tmp rfl) (h := ⟨rfl, hS⟩)
section
variable {B : Bs} {L : List HP} {w : World}
theorem word_any (b : Nat) (s : ByteArray) (i o : Nat) (hs : s.size ≤ 100000000) (hi : i ≤ s.size) (hS : St B (rdr b s i o :: L) w) :
  Calls Tryz.prog 74 #[.pointer (some ⟨b, 0, none⟩)] w
   (RoP (fun v w' => (tokF s i).kind = 4 ∧ v = .tuple #[.string (tokF s i).txt, .int .i64 ((tokF s i).at_ : Int)] ∧ St B (rdr b s (tokF s i).till o :: L) w')
    (fun ch w' => (tokF s i).kind ≠ 4 ∧ ch = thrown (tokF s i).at_ 2 ∧ St B L w')) := by
 have hle := scan_le blkB s _ i (Nat.le_refl _) hi
 have htw := tok_word (s := s) (i := i)
 have htn := tok_noword (s := s) hi
 refine enterP Tryz.func74 rfl Tryz.ntmps74 rfl (fun a hk => ?_)
 (repeat' (first|((first|refine wx1 ?_|refine wx2 ?_ ?_<;>intro hp|refine s_end hk ?_)<;>(clear hk a;intro a hk))|((first|refine wx3 ?_;intro w b|refine wx4 ?_;intro w|refine wx5 ?_;intro w v);clear hk hS a;intro hS a hk)|refine wx0 ?_|fail))
 refine sg hk (g_callO hk (hf := by kernel_rfl) (hc := skip_any b s i o hs hi hS) (h := ?_));clear hk hS a;intro vr w hS a hk
 generalize scan blkB s i = j at *
 have hge := scan_ge visB s _ j (Nat.le_refl _)
 have hle2 := scan_le visB s _ j (Nat.le_refl _) hle
 (repeat' (first|((first|refine wx1 ?_|refine wx2 ?_ ?_<;>intro hp|refine s_end hk ?_)<;>(clear hk a;intro a hk))|((first|refine wx3 ?_;intro w b|refine wx4 ?_;intro w|refine wx5 ?_;intro w v);clear hk hS a;intro hS a hk)|refine wx0 ?_|fail))
 refine wp_while (fun _ => []) (fun x => rdr b s x o :: L) (fun x => j ≤ x ∧ x ≤ s.size ∧ scan visB s x = scan visB s j) (fun x => s.size - x) j hk skx hS.sb ⟨Nat.le_refl _, hle, rfl⟩ ?_
 clear hk hS a
 rintro x a w hk hS ⟨hjx, hx, hsc⟩
 by_cases hgo : x < scan visB s j
 ·by_cases hxl : x < s.size
  ·by_cases hv : visB s[x] = true
   ·have hst := scan_yes (p := visB) hxl hv
    have hwd := fun w0 => worded_any s[x] w0
    rw [hv] at hwd
    (repeat' (first|((first|refine wx1 ?_|refine wx2 ?_ ?_<;>intro hp|refine s_end hk ?_)<;>(clear hk a;intro a hk))|((first|refine wx3 ?_;intro w b|refine wx4 ?_;intro w|refine wx5 ?_;intro w v);clear hk hS a;intro hS a hk)|refine wx0 ?_|fail))
    refine wp_drawn 22 mixed (by kernel_rfl) hk hS ?_;clear hk hS a
    (repeat' (first|(show ObxE _ _ _ _ _ _ _ _ _ (_::_) _ _ _;first|refine ox1 ?_|refine ox2 ?_ ?_<;>intro hp)|fail))
    refine' obe_val (fun us a w hk hd hS => ?_) ?_;rotate_left;focus (have hk := Kn.vw hk vwx;exact g_callO hk (hf := by kernel_rfl) (hc := hwd _) (h := fun _ _ h => h))
    (repeat' (first|(show ObxE _ _ _ _ _ _ _ _ _ (_::_) _ _ _;first|refine ox1 ?_|refine ox2 ?_ ?_<;>intro hp)|fail))
    refine obe_nil ⟨rfl, ?_⟩;intro us a w hk hS
    (repeat' (first|((first|refine wx1 ?_|refine wx2 ?_ ?_<;>intro hp|refine s_end hk ?_)<;>(clear hk a;intro a hk))|((first|refine wx3 ?_;intro w b|refine wx4 ?_;intro w|refine wx5 ?_;intro w v);clear hk hS a;intro hS a hk)|refine wx0 ?_|fail))
    exact ⟨x + 1, by omega, hk.sd, hS.sb, by omega, by omega, by rw [← hst];exact hsc⟩
   ·rw [scan_no (p := visB) hxl hv] at hsc;omega
  ·rw [scan_end (p := visB) hxl] at hsc;omega
 ·have hxe : x = scan visB s j := by
   have := scan_ge visB s _ x (Nat.le_refl _)
   omega
  have hout : ¬ (x < s.size) ∨ ∃ h : x < s.size, visB s[x] = false := by
   by_cases hxl : x < s.size
   ·right
    refine ⟨hxl, ?_⟩
    cases hv : visB s[x] with
    | false => rfl
    | true =>
     have := scan_stop visB s _ j (Nat.le_refl _) (by rw [← hxe];exact hxl)
     simp only [← hxe] at this
     exact absurd hv this
   ·exact .inl hxl
  rcases hout with hxl | ⟨hxl, hv⟩
  ·(repeat' (first|((first|refine wx1 ?_|refine wx2 ?_ ?_<;>intro hp|refine s_end hk ?_)<;>(clear hk a;intro a hk))|((first|refine wx3 ?_;intro w b|refine wx4 ?_;intro w|refine wx5 ?_;intro w v);clear hk hS a;intro hS a hk)|refine wx0 ?_|fail))
   refine wp_drawn 22 mixed (by kernel_rfl) hk hS ?_;clear hk hS a
   (repeat' (first|(show ObxE _ _ _ _ _ _ _ _ _ (_::_) _ _ _;first|refine ox1 ?_|refine ox2 ?_ ?_<;>intro hp)|fail))
   refine obe_nil ⟨rfl, ?_⟩;intro us a w hk hS
   by_cases hxj : j = x
   ·(repeat' (first|((first|refine wx1 ?_|refine wx2 ?_ ?_<;>intro hp|refine s_end hk ?_)<;>(clear hk a;intro a hk))|((first|refine wx3 ?_;intro w b|refine wx4 ?_;intro w|refine wx5 ?_;intro w v);clear hk hS a;intro hS a hk)|refine wx0 ?_|fail))
    refine sgP hk ((g_callP hk (hf := by kernel_rfl) (hc := fail_any j 2 _)).mono (fun v w h => h.elim) (fun ch w h a hk => ?_))
    obtain ⟨rfl, hS1⟩ := h
    (repeat (first | refine then_panic ?_ | refine inBlock_panic ?_))
    obtain ⟨h4, hat⟩ := htn (by omega)
    exact DoneP.panic hk ⟨h4, by rw [hat], (hS.call0 hS1).sub .cons_drop⟩
   ·(repeat' (first|((first|refine wx1 ?_|refine wx2 ?_ ?_<;>intro hp|refine s_end hk ?_)<;>(clear hk a;intro a hk))|((first|refine wx3 ?_;intro w b|refine wx4 ?_;intro w|refine wx5 ?_;intro w v);clear hk hS a;intro hS a hk)|refine wx0 ?_|fail))
    refine wp_drawn 13 mixed (by kernel_rfl) hk hS ?_;clear hk hS a
    (repeat' (first|(show ObxE _ _ _ _ _ _ _ _ _ (_::_) _ _ _;first|refine ox1 ?_|refine ox2 ?_ ?_<;>intro hp)|fail))
    refine obe_nil ⟨rfl, ?_⟩;intro us a w hk hS
    (repeat' (first|((first|refine wx1 ?_|refine wx2 ?_ ?_<;>intro hp|refine s_end hk ?_)<;>(clear hk a;intro a hk))|((first|refine wx3 ?_;intro w b|refine wx4 ?_;intro w|refine wx5 ?_;intro w v);clear hk hS a;intro hS a hk)|refine wx0 ?_|fail))
    have ht := htw (by omega)
    rw [ht]
    refine DoneP.ret (done2 hk (h := ⟨rfl, ?_, ?_⟩))
    ·rw [← hxe];rfl
    ·rw [← hxe];exact hS
  ·have hwd := fun w0 => worded_any s[x] w0
   rw [hv] at hwd
   (repeat' (first|((first|refine wx1 ?_|refine wx2 ?_ ?_<;>intro hp|refine s_end hk ?_)<;>(clear hk a;intro a hk))|((first|refine wx3 ?_;intro w b|refine wx4 ?_;intro w|refine wx5 ?_;intro w v);clear hk hS a;intro hS a hk)|refine wx0 ?_|fail))
   refine wp_drawn 22 mixed (by kernel_rfl) hk hS ?_;clear hk hS a
   (repeat' (first|(show ObxE _ _ _ _ _ _ _ _ _ (_::_) _ _ _;first|refine ox1 ?_|refine ox2 ?_ ?_<;>intro hp)|fail))
   refine' obe_val (fun us a w hk hd hS => ?_) ?_;rotate_left;focus (have hk := Kn.vw hk vwx;exact g_callO hk (hf := by kernel_rfl) (hc := hwd _) (h := fun _ _ h => h))
   (repeat' (first|(show ObxE _ _ _ _ _ _ _ _ _ (_::_) _ _ _;first|refine ox1 ?_|refine ox2 ?_ ?_<;>intro hp)|fail))
   refine obe_nil ⟨rfl, ?_⟩;intro us a w hk hS
   by_cases hxj : j = x
   ·(repeat' (first|((first|refine wx1 ?_|refine wx2 ?_ ?_<;>intro hp|refine s_end hk ?_)<;>(clear hk a;intro a hk))|((first|refine wx3 ?_;intro w b|refine wx4 ?_;intro w|refine wx5 ?_;intro w v);clear hk hS a;intro hS a hk)|refine wx0 ?_|fail))
    refine sgP hk ((g_callP hk (hf := by kernel_rfl) (hc := fail_any j 2 _)).mono (fun v w h => h.elim) (fun ch w h a hk => ?_))
    obtain ⟨rfl, hS1⟩ := h
    (repeat (first | refine then_panic ?_ | refine inBlock_panic ?_))
    obtain ⟨h4, hat⟩ := htn (by omega)
    exact DoneP.panic hk ⟨h4, by rw [hat], (hS.call0 hS1).sub .cons_drop⟩
   ·(repeat' (first|((first|refine wx1 ?_|refine wx2 ?_ ?_<;>intro hp|refine s_end hk ?_)<;>(clear hk a;intro a hk))|((first|refine wx3 ?_;intro w b|refine wx4 ?_;intro w|refine wx5 ?_;intro w v);clear hk hS a;intro hS a hk)|refine wx0 ?_|fail))
    refine wp_drawn 13 mixed (by kernel_rfl) hk hS ?_;clear hk hS a
    (repeat' (first|(show ObxE _ _ _ _ _ _ _ _ _ (_::_) _ _ _;first|refine ox1 ?_|refine ox2 ?_ ?_<;>intro hp)|fail))
    refine obe_nil ⟨rfl, ?_⟩;intro us a w hk hS
    (repeat' (first|((first|refine wx1 ?_|refine wx2 ?_ ?_<;>intro hp|refine s_end hk ?_)<;>(clear hk a;intro a hk))|((first|refine wx3 ?_;intro w b|refine wx4 ?_;intro w|refine wx5 ?_;intro w v);clear hk hS a;intro hS a hk)|refine wx0 ?_|fail))
    have ht := htw (by omega)
    rw [ht]
    refine DoneP.ret (done2 hk (h := ⟨rfl, ?_, ?_⟩))
    ·rw [← hxe];rfl
    ·rw [← hxe];exact hS
end
end Go.Proofs.YtnjmonkehjlaoaaGreatDoor
namespace Go.Proofs.YtnjmonkehjlaoaaGreatDoor
open Go.RowKit
set_option maxRecDepth 100000
attribute [local irreducible] Go.Code.wpIn Go.wpListIn Go.Calls Gives Go.Exit.then Go.Exit.inBlock Done ObxE
set_option maxHeartbeats 4000000 in
theorem cut8_any (s : ByteArray) (hs : s.size ≤ 1000000) (w0 : World) : Calls Tryz.prog 79 #[.string s] w0 (Ret fun v w => v = .tuple #[.string (cutR 61 s).1, .string (cutR 61 s).2.1, .bool (cutR 61 s).2.2] ∧ St w0 [] w) := by
 refine enter Tryz.func79 rfl Tryz.ntmps79 rfl (fun a hk => ?_);have hS := St.refl w0
 (repeat' (first|((first|refine wx1 ?_|refine wx2 ?_ ?_<;>intro hp|refine s_end hk ?_)<;>(clear hk a;intro a hk))|((first|refine wx3 ?_;intro w b|refine wx4 ?_;intro w|refine wx5 ?_;intro w v);clear hk hS a;intro hS a hk)|refine wx0 ?_|fail))
 replace hk := Kn.kp [0, 5] hk
 refine wp_while (fun x : Nat => [(5, .int .i64 (x : Int))]) (fun _ => []) (fun x => x ≤ s.size ∧ scan (notB 61) s x = scan (notB 61) s 0) (fun x => s.size - x) 0 hk skx hS.sb ⟨Nat.zero_le _, rfl⟩ ?_
 clear hk hS a
 rintro x a w hk hS ⟨hx, hsc⟩
 by_cases hxl : x < s.size
 ·by_cases hb : s[x].toNat = 61
  ·have hq : scan (notB 61) s 0 = x := by rw [← hsc];exact scan_no hxl (by unfold notB;rw [decide_eq_true (show s[x].toNat = UInt8.toNat 61 from hb)];decide)
   unfold cutR
   rw [hq, if_pos hxl]
   (repeat' (first|((first|refine wx1 ?_|refine wx2 ?_ ?_<;>intro hp|refine s_end hk ?_)<;>(clear hk a;intro a hk))|((first|refine wx3 ?_;intro w b|refine wx4 ?_;intro w|refine wx5 ?_;intro w v);clear hk hS a;intro hS a hk)|refine wx0 ?_|fail))
   refine wp_drawn 10 mixed (by kernel_rfl) hk hS ?_;clear hk hS a
   (repeat' (first|(show ObxE _ _ _ _ _ _ _ _ _ (_::_) _ _ _;first|refine ox1 ?_|refine ox2 ?_ ?_<;>intro hp)|fail))
   refine obe_nil ⟨rfl, ?_⟩;intro us a w hk hS
   (repeat' (first|((first|refine wx1 ?_|refine wx2 ?_ ?_<;>intro hp|refine s_end hk ?_)<;>(clear hk a;intro a hk))|((first|refine wx3 ?_;intro w b|refine wx4 ?_;intro w|refine wx5 ?_;intro w v);clear hk hS a;intro hS a hk)|refine wx0 ?_|fail))
   exact done3R hk rfl (.tmp rfl) (.tmp rfl) (.tmp rfl) (h := ⟨rfl, hS⟩)
  ·have hst := scan_yes (p := notB 61) hxl (by unfold notB;rw [decide_eq_false (show ¬ s[x].toNat = UInt8.toNat 61 from hb)];rfl)
   (repeat' (first|((first|refine wx1 ?_|refine wx2 ?_ ?_<;>intro hp|refine s_end hk ?_)<;>(clear hk a;intro a hk))|((first|refine wx3 ?_;intro w b|refine wx4 ?_;intro w|refine wx5 ?_;intro w v);clear hk hS a;intro hS a hk)|refine wx0 ?_|fail))
   exact ⟨x + 1, by omega, hk.sd, hS.sb, by omega, by rw [← hst];exact hsc⟩
 ·have hq : scan (notB 61) s 0 = x := by rw [← hsc];exact scan_end hxl
  unfold cutR
  rw [hq, if_neg hxl]
  (repeat' (first|((first|refine wx1 ?_|refine wx2 ?_ ?_<;>intro hp|refine s_end hk ?_)<;>(clear hk a;intro a hk))|((first|refine wx3 ?_;intro w b|refine wx4 ?_;intro w|refine wx5 ?_;intro w v);clear hk hS a;intro hS a hk)|refine wx0 ?_|fail))
  exact done3R hk rfl (.tmp rfl) (.tmp rfl) (.tmp rfl) (h := ⟨rfl, hS⟩)
end Go.Proofs.YtnjmonkehjlaoaaGreatDoor
namespace Go.Proofs.YtnjmonkehjlaoaaGreatDoor
open Go.RowKit
set_option maxRecDepth 100000
attribute [local irreducible] Go.Code.wpIn Go.wpListIn Go.Calls Gives Go.Exit.then Go.Exit.inBlock Done ObxE
abbrev nd0 : List Value := [.int .i64 0, .string ⟨#[]⟩, .string ⟨#[]⟩, .string ⟨#[]⟩, .slice none 0 0, .slice none 0 0, .slice none 0 0, .int .i64 0, .int .i64 0, .int .i64 0, .int .i64 0, .bool false, .bool false, .slice none 0 0]
section
variable {B : Bs} {L : List HP} {w : World}
theorem leaf_of {x : ByteArray} (hS : St B L w) : St B (treeH (.mk 1 ⟨#[]⟩ ⟨#[]⟩ x [] [] [] o0 []) (.agg #[.int .i64 1, .string ⟨#[]⟩, .string ⟨#[]⟩, .string x, .slice none 0 0, .slice none 0 0, .slice none 0 0, .int .i64 0, .int .i64 0, .int .i64 0, .int .i64 0, .bool false, .bool false, .slice none 0 0]) :: L) w := by
 have hS1 := (((hS.nilT 9 ByteArray).nilT 139 (ByteArray × ByteArray)).nilT 140 (ByteArray × Int)).nilT 31 NdH
 exact treeH.of (h := (1, ⟨#[]⟩, ⟨#[]⟩, x, ⟨none, 0, 0⟩, ⟨none, 0, 0⟩, ⟨none, 0, 0⟩, o0, ⟨none, 0, 0⟩)) (treeR.of (A1 := OwT 9 ([] : List ByteArray) (.slice none 0 0)) (A2 := OwT 139 ([] : List (ByteArray × ByteArray)) (.slice none 0 0)) (A3 := OwT 140 ([] : List (ByteArray × Int)) (.slice none 0 0)) (A4 := OwT 31 ([] : List NdH) (.slice none 0 0)) (H := []) (kids := []) ((forR.nil hS1).sub (.cons atx (.cons atx (.cons atx (.cons atx (.cons atx .refl)))))))
set_option maxHeartbeats 4000000 in
theorem rdtext_any (br : Nat) (s : ByteArray) (i o : Nat) (hs : s.size ≤ 100000000) (hi : i < s.size) (hq : s[i].toNat = 39) (hS : St B (rdr br s i o :: L) w) :
  Calls Tryz.prog 41 #[.pointer (some ⟨br, 0, none⟩)] w
   (RoP (fun v w' => (tokF s i).kind = 3 ∧ St B (treeH (.mk 1 ⟨#[]⟩ ⟨#[]⟩ (tokF s i).txt [] [] [] o0 []) v :: rdr br s (tokF s i).till o :: L) w')
    (fun ch w' => (tokF s i).kind = 5 ∧ ch = thrown (tokF s i).at_ 2 ∧ St B L w')) := by
 have hsc : scan blkB s i = i := scan_no hi (by unfold blkB;rw [decide_eq_false (by omega)];decide)
 have t3 := @tok_3 s i (by omega) (by simp only [hsc];exact hq)
 have t5 := @tok_5 s i (by omega) (by simp only [hsc];exact hq)
 simp only [hsc] at t3 t5
 obtain ⟨q1, q2⟩ := cut_quote s (i + 1) (by omega)
 obtain ⟨q3, -⟩ := cut_le 39 (s.extract (i + 1) s.size)
 have hge := scan_ge nqB s _ (i + 1) (Nat.le_refl _)
 have hxs : (s.extract (i + 1) s.size).size ≤ s.size := by simp only [ByteArray.size_extract];omega
 refine enterP Tryz.func41 rfl Tryz.ntmps41 rfl (fun a hk => ?_)
 (repeat' (first|((first|refine wx1 ?_|refine wx2 ?_ ?_<;>intro hp|refine s_end hk ?_)<;>(clear hk a;intro a hk))|((first|refine wx3 ?_;intro w b|refine wx4 ?_;intro w|refine wx5 ?_;intro w v);clear hk hS a;intro hS a hk)|refine wx0 ?_|fail))
 rw [show ((i : Int) + 1).toNat = i + 1 by omega] at hk
 refine sg hk (g_callO hk (hf := by kernel_rfl) (hc := scut_any (s.extract (i + 1) s.size) 39 (by omega) _) (h := ?_));clear hk a;rintro _ w ⟨rfl, hS1⟩ a hk;replace hS := hS.call0 hS1;clear hS1
 generalize (cutR 39 (s.extract (i + 1) s.size)).2.2 = found at *
 generalize (cutR 39 (s.extract (i + 1) s.size)).2.1 = aft at *
 generalize (cutR 39 (s.extract (i + 1) s.size)).1 = x at *
 (repeat' (first|((first|refine wx1 ?_|refine wx2 ?_ ?_<;>intro hp|refine s_end hk ?_)<;>(clear hk a;intro a hk))|((first|refine wx3 ?_;intro w b|refine wx4 ?_;intro w|refine wx5 ?_;intro w v);clear hk hS a;intro hS a hk)|refine wx0 ?_|fail))
 refine sg hk (g_bytes (s := x) hk hS (by simp only [maxLen];omega) ?_ (ht := sT rfl) (hd := eT rfl) (he := iT rfl));clear hk hS a;intro w b2 cap fr hc1 hc2 hS a hk
 have hby0 := bys_rd (obj.block (hS.rd (A := obj b2 (.cells (bytesRow x cap) 5 fr)) atx)) hc1 hc2
 have hbl := bys_len x
 (repeat' (first|((first|refine wx1 ?_|refine wx2 ?_ ?_<;>intro hp|refine s_end hk ?_)<;>(clear hk a;intro a hk))|((first|refine wx3 ?_;intro w b|refine wx4 ?_;intro w|refine wx5 ?_;intro w v);clear hk hS a;intro hS a hk)|refine wx0 ?_|fail))
 rw [hbl] at hk
 replace hk := Kn.kp [0, 2, 3, 4, 6, 26, 27, 28] hk
 refine wp_for x.size (fun n (ok : Bool) => [(6, .bool ok), (28, .int .i64 (n : Int))]) (fun _ _ => obj b2 (.cells (bytesRow x cap) 5 fr) :: pts b nd0 31 :: rdr br s i o :: L) (fun n ok => ok = (found && (x.data.toList.take n).all priL)) found hk skx hS.sb (by simp) ?_
 clear hk hS a
 rintro n ok a w hn hk hS hF
 have hby := bys_rd (obj.block (hS.rd (A := obj b2 (.cells (bytesRow x cap) 5 fr)) atx)) hc1 hc2
 by_cases hil : n < x.size
 ·have hx : (bysF x)[n]? = some x[n] := byte_at hil
  have htk := all_take hil priL
  cases ok with
  | false =>
   (repeat' (first|((first|refine wx1 ?_|refine wx2 ?_ ?_<;>intro hp|refine s_end hk ?_)<;>(clear hk a;intro a hk))|((first|refine wx3 ?_;intro w b|refine wx4 ?_;intro w|refine wx5 ?_;intro w v);clear hk hS a;intro hS a hk)|refine wx0 ?_|fail))
   exact ⟨hil, false, hk.sd, hS.sb, by rw [htk, ← Bool.and_assoc, ← hF];rfl⟩
  | true =>
   (repeat' (first|((first|refine wx1 ?_|refine wx2 ?_ ?_<;>intro hp|refine s_end hk ?_)<;>(clear hk a;intro a hk))|((first|refine wx3 ?_;intro w b|refine wx4 ?_;intro w|refine wx5 ?_;intro w v);clear hk hS a;intro hS a hk)|refine wx0 ?_|fail))
   all_goals first
    | exact ⟨hil, true, hk.sd, hS.sb, by rw [htk, ← Bool.and_assoc, ← hF];unfold priL;rw [decide_eq_true (by omega)];rfl⟩
    | exact ⟨hil, false, hk.sd, hS.sb, by rw [htk, ← Bool.and_assoc, ← hF];unfold priL;rw [decide_eq_false (by omega)];rfl⟩
 ·have : n = x.size := by omega
  subst this
  rw [all_full] at hF
  cases ok with
  | false =>
   have h5 := t5 (fun ⟨h1, h2⟩ => by
    rw [q1, decide_eq_true h1, q2 h1, h2] at hF
    cases hF)
   (repeat' (first|((first|refine wx1 ?_|refine wx2 ?_ ?_<;>intro hp|refine s_end hk ?_)<;>(clear hk a;intro a hk))|((first|refine wx3 ?_;intro w b|refine wx4 ?_;intro w|refine wx5 ?_;intro w v);clear hk hS a;intro hS a hk)|refine wx0 ?_|fail))
   refine sgP hk ((g_callP hk (hf := by kernel_rfl) (hc := fail_any i 2 _)).mono (fun v w h => h.elim) (fun ch w h a hk => ?_))
   obtain ⟨rfl, hS1⟩ := h
   (repeat (first | refine then_panic ?_ | refine inBlock_panic ?_))
   exact DoneP.panic hk ⟨by rw [h5], by rw [h5], (hS.call0 hS1).sub (by first | exact .cons atx (by repeat (first | exact Sub.refl | apply Sub.under)) | (repeat (first | exact Sub.refl | apply Sub.under)))⟩
  | true =>
   have hf : found = true := by cases found with
    | true => rfl
    | false => cases hF
   have h1 : scan nqB s (i + 1) < s.size := by rw [hf] at q1;exact of_decide_eq_true q1.symm
   have hx2 := q2 h1
   have h3 := t3 ⟨h1, by rw [← hx2];rw [hf] at hF;exact hF.symm⟩
   have hxl : x.size + (i + 1) = scan nqB s (i + 1) := by rw [hx2, ByteArray.size_extract];omega
   (repeat' (first|((first|refine wx1 ?_|refine wx2 ?_ ?_<;>intro hp|refine s_end hk ?_)<;>(clear hk a;intro a hk))|((first|refine wx3 ?_;intro w b|refine wx4 ?_;intro w|refine wx5 ?_;intro w v);clear hk hS a;intro hS a hk)|refine wx0 ?_|fail))
   rw [show (i : Int) + ((x.size : Int) + 2) = ((scan nqB s (i + 1) + 1 : Nat) : Int) by omega] at hS
   refine DoneP.ret (done1R hk rfl (.str hS (hT := aT rfl) (hs := zT rfl)) (h := ⟨by rw [h3], ?_⟩))
   rw [h3]
   have := leaf_of (x := x) (hS.sub (L' := rdr br s (scan nqB s (i + 1) + 1) o :: L) (by first | exact .cons atx (by repeat (first | exact Sub.refl | apply Sub.under)) | (repeat (first | exact Sub.refl | apply Sub.under))))
   rw [← hx2]
   exact this
end
end Go.Proofs.YtnjmonkehjlaoaaGreatDoor
namespace Go.Proofs.YtnjmonkehjlaoaaGreatDoor
open Go.RowKit
set_option maxRecDepth 100000
attribute [local irreducible] Go.Code.wpIn Go.wpListIn Go.Calls Gives Go.Exit.then Go.Exit.inBlock Done ObxE
set_option maxHeartbeats 4000000 in
theorem number_any (s : ByteArray) (hs : s.size ≤ 1000000) (w0 : World) : Calls Tryz.prog 115 #[.string s] w0 (Ret fun v w => v = .tuple #[.int .i64 (numP s.data.toList).1, .bool (numP s.data.toList).2] ∧ St w0 [] w) := by
 refine enter Tryz.func115 rfl Tryz.ntmps115 rfl (fun a hk => ?_);have hS := St.refl w0
 (repeat' (first|((first|refine wx1 ?_|refine wx2 ?_ ?_<;>intro hp|refine s_end hk ?_)<;>(clear hk a;intro a hk))|((first|refine wx3 ?_;intro w b|refine wx4 ?_;intro w|refine wx5 ?_;intro w v);clear hk hS a;intro hS a hk)|refine wx0 ?_|fail))
 refine sg hk (g_callO hk (hf := by kernel_rfl) (hc := cutPrefix_any s ⟨#[45]⟩ _) (h := ?_));clear hk a;rintro _ w ⟨rfl, hS1⟩ a hk;replace hS := hS.call0 hS1;clear hS1
 have hd0 : (if prefB s ⟨#[45]⟩ then s.extract (⟨#[45]⟩ : ByteArray).size s.size else s) = digS s := rfl
 rw [hd0] at hk
 have hD := dig_list s
 have hsg := pref_sgn s
 rw [hsg] at hk
 have hds : (digS s).size = (digL s.data.toList).length := by rw [← hD];simp
 have hdl : (digS s).size ≤ s.size := by
  rw [hds]
  have : s.size = s.data.toList.length := by simp
  rw [this]
  unfold digL
  split
  ·simp
  ·exact Nat.le_refl _
 have hnum : numL s.data.toList = if sgnL s.data.toList then -((valL (digL s.data.toList) : Nat) : Int) else ((valL (digL s.data.toList) : Nat) : Int) := rfl
 have hbad : badD s.data.toList ↔ (digL s.data.toList = [] ∨ 10 < (digL s.data.toList).length ∨ (digL s.data.toList).all digB = false) := Iff.rfl
 have hzer : zerD s.data.toList ↔ ((digL s.data.toList).head? = some 48 ∧ (1 < (digL s.data.toList).length ∨ sgnL s.data.toList = true)) := Iff.rfl
 have hnp1 : (badD s.data.toList ∨ zerD s.data.toList ∨ outR (numL s.data.toList)) → numP s.data.toList = (0, false) := fun h => by unfold numP;rw [if_pos h]
 have hnp2 : ¬ badD s.data.toList → ¬ zerD s.data.toList → ¬ outR (numL s.data.toList) → numP s.data.toList = (numL s.data.toList, true) := fun h1 h2 h3 => by
  unfold numP;rw [if_neg (by rintro (h | h | h);exact h1 h;exact h2 h;exact h3 h)]
 rw [← hD] at hnum hbad hzer hds
 generalize numP s.data.toList = res at *
 generalize badD s.data.toList = bd at *
 generalize zerD s.data.toList = zd at *
 generalize numL s.data.toList = nu at *
 generalize sgnL s.data.toList = mi at *
 clear hD
 generalize digS s = d at *
 have he := emp_iff (s := d)
 have no : bd ∨ zd ∨ outR nu → ∀ (a : Act) (w : World) (l : List (Nat × Value)), Kn [] 63 a l → lk l 2 = some (.int .i64 0) → lk l 3 = some (.bool false) → St w0 [] w →
   Done Tryz.prog Tryz.f115 (fun v w => v = .tuple #[.int .i64 res.1, .bool res.2] ∧ St w0 [] w) .ret a w := fun h a w l hk g2 g3 hS =>
  done2 hk (hv := g2) (hv' := g3) (h := ⟨by rw [hnp1 h], hS⟩)
 by_cases h0 : d = ⟨#[]⟩
 ·have hn := hbad.2 (.inl (by rw [h0]))
  (repeat' (first|((first|refine wx1 ?_|refine wx2 ?_ ?_<;>intro hp|refine s_end hk ?_)<;>(clear hk a;intro a hk))|((first|refine wx3 ?_;intro w b|refine wx4 ?_;intro w|refine wx5 ?_;intro w v);clear hk hS a;intro hS a hk)|refine wx0 ?_|fail))
  all_goals first
   | exact no (.inl hn) _ _ _ hk rfl rfl hS
   | (exfalso;contradiction)
 ·have h1 : 0 < d.size := Nat.pos_of_ne_zero (fun h => h0 (he.2 h))
  by_cases h10 : d.size ≤ 10
  ·(repeat' (first|((first|refine wx1 ?_|refine wx2 ?_ ?_<;>intro hp|refine s_end hk ?_)<;>(clear hk a;intro a hk))|((first|refine wx3 ?_;intro w b|refine wx4 ?_;intro w|refine wx5 ?_;intro w v);clear hk hS a;intro hS a hk)|refine wx0 ?_|fail))
   refine sg hk (g_callO hk (hf := by kernel_rfl) (hc := all_any 144 digB (by kernel_rfl) digit_any d (by omega) _) (h := ?_));clear hk a;rintro _ w ⟨rfl, hS1⟩ a hk;replace hS := hS.call0 hS1;clear hS1
   cases hall : d.data.toList.all digB with
   | false =>
    rw [hall] at hk hbad
    (repeat' (first|((first|refine wx1 ?_|refine wx2 ?_ ?_<;>intro hp|refine s_end hk ?_)<;>(clear hk a;intro a hk))|((first|refine wx3 ?_;intro w b|refine wx4 ?_;intro w|refine wx5 ?_;intro w v);clear hk hS a;intro hS a hk)|refine wx0 ?_|fail))
    exact no (.inl (hbad.2 (.inr (.inr rfl)))) _ _ _ hk rfl rfl hS
   | true =>
    rw [hall] at hk hbad
    have hnb : ¬ bd := fun h => by
     rcases hbad.1 h with h | h | h
     ·exact absurd (hds.trans (by rw [h];rfl) : d.size = 0) (by omega)
     ·exact absurd h (by rw [← hds];omega)
     ·cases h
    have hat := dig_at (i := 0) h1 hall
    have hh : d.data.toList.head? = some (d[0]'h1) := by
     have := byte_at h1
     cases hl : d.data.toList with
     | nil => rw [hl] at this;cases this
     | cons x r => rw [hl] at this;simpa using this
    rw [hh] at hzer
    have h48 : some (d[0]'h1) = some 48 ↔ (d[0]'h1).toNat = 48 := by
     constructor
     ·intro h;injection h with h;rw [h];rfl
     ·intro h;exact congrArg some (u8_ext h)
    rw [h48, ← hds] at hzer
    by_cases hz : zd
    ·obtain ⟨z1, z2⟩ := hzer.1 hz
     cases mi with
     | true =>
      (repeat' (first|((first|refine wx1 ?_|refine wx2 ?_ ?_<;>intro hp|refine s_end hk ?_)<;>(clear hk a;intro a hk))|((first|refine wx3 ?_;intro w b|refine wx4 ?_;intro w|refine wx5 ?_;intro w v);clear hk hS a;intro hS a hk)|refine wx0 ?_|fail))
      all_goals first
       | exact no (.inr (.inl hz)) _ _ _ hk rfl rfl hS
       | (exfalso;omega)
     | false =>
      have z3 : 1 < d.size := by rcases z2 with h | h;exact h;cases h
      (repeat' (first|((first|refine wx1 ?_|refine wx2 ?_ ?_<;>intro hp|refine s_end hk ?_)<;>(clear hk a;intro a hk))|((first|refine wx3 ?_;intro w b|refine wx4 ?_;intro w|refine wx5 ?_;intro w v);clear hk hS a;intro hS a hk)|refine wx0 ?_|fail))
      all_goals first
       | exact no (.inr (.inl hz)) _ _ _ hk rfl rfl hS
       | (exfalso;omega)
    ·by_cases hd48 : (d[0]'h1).toNat = 48
     ·cases mi with
      | true => exact absurd (hzer.2 ⟨hd48, .inr rfl⟩) hz
      | false =>
       have hs1 : ¬ 1 < d.size := fun h => hz (hzer.2 ⟨hd48, .inl h⟩)
       (repeat' (first|((first|refine wx1 ?_|refine wx2 ?_ ?_<;>intro hp|refine s_end hk ?_)<;>(clear hk a;intro a hk))|((first|refine wx3 ?_;intro w b|refine wx4 ?_;intro w|refine wx5 ?_;intro w v);clear hk hS a;intro hS a hk)|refine wx0 ?_|fail))
       refine sg hk (g_bytes (s := d) hk hS (by simp only [maxLen];omega) ?_ (ht := sT rfl) (hd := eT rfl) (he := iT rfl));clear hk hS a;intro w b cap fr hc1 hc2 hS a hk
       have hby0 := bys_rd (obj.block (hS.rd (A := obj b (.cells (bytesRow d cap) 5 fr)) atx)) hc1 hc2
       have hbl := bys_len d
       (repeat' (first|((first|refine wx1 ?_|refine wx2 ?_ ?_<;>intro hp|refine s_end hk ?_)<;>(clear hk a;intro a hk))|((first|refine wx3 ?_;intro w b|refine wx4 ?_;intro w|refine wx5 ?_;intro w v);clear hk hS a;intro hS a hk)|refine wx0 ?_|fail))
       rw [hbl] at hk
       replace hk := Kn.kp [5, 6, 40, 41, 42] hk
       refine wp_for d.size (fun i _ => [(6, .int .i64 (valL (d.data.toList.take i) : Nat)), (42, .int .i64 (i : Int))]) (fun _ _ => [obj b (.cells (bytesRow d cap) 5 fr)]) (fun _ _ => True) () hk skx hS.sb trivial ?_
       clear hk hS a
       rintro i - a w hi hk hS -
       have hby := bys_rd (obj.block (hS.rd (A := obj b (.cells (bytesRow d cap) 5 fr)) atx)) hc1 hc2
       have hvs := val_small (l := d.data.toList.take i) (by rw [List.length_take, ← hds];omega) (all_tk hall)
       by_cases hil : i < d.size
       ·have hx : (bysF d)[i]? = some d[i] := byte_at hil
        have hvt := val_take hil
        have hdg := dig_at hil hall
        (repeat' (first|((first|refine wx1 ?_|refine wx2 ?_ ?_<;>intro hp|refine s_end hk ?_)<;>(clear hk a;intro a hk))|((first|refine wx3 ?_;intro w b|refine wx4 ?_;intro w|refine wx5 ?_;intro w v);clear hk hS a;intro hS a hk)|refine wx0 ?_|fail))
        refine sg hk (g_mul hk ?_ (hlo := by omega) (hhi := by omega));clear hk a;intro a hk
        (repeat' (first|((first|refine wx1 ?_|refine wx2 ?_ ?_<;>intro hp|refine s_end hk ?_)<;>(clear hk a;intro a hk))|((first|refine wx3 ?_;intro w b|refine wx4 ?_;intro w|refine wx5 ?_;intro w v);clear hk hS a;intro hS a hk)|refine wx0 ?_|fail))
        refine sg hk (g_subB hk ?_ (hlo := by omega) (hhi := by omega));clear hk a;intro a hk
        (repeat' (first|((first|refine wx1 ?_|refine wx2 ?_ ?_<;>intro hp|refine s_end hk ?_)<;>(clear hk a;intro a hk))|((first|refine wx3 ?_;intro w b|refine wx4 ?_;intro w|refine wx5 ?_;intro w v);clear hk hS a;intro hS a hk)|refine wx0 ?_|fail))
        rw [show (10 : Int) * ((valL (d.data.toList.take i) : Nat) : Int) + (((d[i].toNat : Nat) : Int) - 48) = ((valL (d.data.toList.take (i + 1)) : Nat) : Int) by omega] at hk
        exact ⟨hil, (), hk.sd, hS.sb, trivial⟩
       ·have : i = d.size := by omega
        subst this
        rw [all_full] at hk hvs
        simp only [if_true, if_false, Bool.false_eq_true] at hnum
        rw [← hnum] at hk
        by_cases ho : outR nu
        ·have ho' : nu < -2147483648 ∨ 2147483647 < nu := ho
         (repeat' (first|((first|refine wx1 ?_|refine wx2 ?_ ?_<;>intro hp|refine s_end hk ?_)<;>(clear hk a;intro a hk))|((first|refine wx3 ?_;intro w b|refine wx4 ?_;intro w|refine wx5 ?_;intro w v);clear hk hS a;intro hS a hk)|refine wx0 ?_|fail))
         all_goals first
          | exact no (.inr (.inr ho)) _ _ _ hk rfl rfl hS.nil
          | (exfalso;omega)
        ·have ho' : ¬ (nu < -2147483648 ∨ 2147483647 < nu) := ho
         (repeat' (first|((first|refine wx1 ?_|refine wx2 ?_ ?_<;>intro hp|refine s_end hk ?_)<;>(clear hk a;intro a hk))|((first|refine wx3 ?_;intro w b|refine wx4 ?_;intro w|refine wx5 ?_;intro w v);clear hk hS a;intro hS a hk)|refine wx0 ?_|fail))
         all_goals first
          | exact done2 hk (h := ⟨by rw [hnp2 hnb hz ho, hnum], hS.nil⟩)
          | (exfalso;omega)
     ·cases mi with
      | true =>
       (repeat' (first|((first|refine wx1 ?_|refine wx2 ?_ ?_<;>intro hp|refine s_end hk ?_)<;>(clear hk a;intro a hk))|((first|refine wx3 ?_;intro w b|refine wx4 ?_;intro w|refine wx5 ?_;intro w v);clear hk hS a;intro hS a hk)|refine wx0 ?_|fail))
       refine sg hk (g_bytes (s := d) hk hS (by simp only [maxLen];omega) ?_ (ht := sT rfl) (hd := eT rfl) (he := iT rfl));clear hk hS a;intro w b cap fr hc1 hc2 hS a hk
       have hby0 := bys_rd (obj.block (hS.rd (A := obj b (.cells (bytesRow d cap) 5 fr)) atx)) hc1 hc2
       have hbl := bys_len d
       (repeat' (first|((first|refine wx1 ?_|refine wx2 ?_ ?_<;>intro hp|refine s_end hk ?_)<;>(clear hk a;intro a hk))|((first|refine wx3 ?_;intro w b|refine wx4 ?_;intro w|refine wx5 ?_;intro w v);clear hk hS a;intro hS a hk)|refine wx0 ?_|fail))
       rw [hbl] at hk
       replace hk := Kn.kp [5, 6, 40, 41, 42] hk
       refine wp_for d.size (fun i _ => [(6, .int .i64 (valL (d.data.toList.take i) : Nat)), (42, .int .i64 (i : Int))]) (fun _ _ => [obj b (.cells (bytesRow d cap) 5 fr)]) (fun _ _ => True) () hk skx hS.sb trivial ?_
       clear hk hS a
       rintro i - a w hi hk hS -
       have hby := bys_rd (obj.block (hS.rd (A := obj b (.cells (bytesRow d cap) 5 fr)) atx)) hc1 hc2
       have hvs := val_small (l := d.data.toList.take i) (by rw [List.length_take, ← hds];omega) (all_tk hall)
       by_cases hil : i < d.size
       ·have hx : (bysF d)[i]? = some d[i] := byte_at hil
        have hvt := val_take hil
        have hdg := dig_at hil hall
        (repeat' (first|((first|refine wx1 ?_|refine wx2 ?_ ?_<;>intro hp|refine s_end hk ?_)<;>(clear hk a;intro a hk))|((first|refine wx3 ?_;intro w b|refine wx4 ?_;intro w|refine wx5 ?_;intro w v);clear hk hS a;intro hS a hk)|refine wx0 ?_|fail))
        refine sg hk (g_mul hk ?_ (hlo := by omega) (hhi := by omega));clear hk a;intro a hk
        (repeat' (first|((first|refine wx1 ?_|refine wx2 ?_ ?_<;>intro hp|refine s_end hk ?_)<;>(clear hk a;intro a hk))|((first|refine wx3 ?_;intro w b|refine wx4 ?_;intro w|refine wx5 ?_;intro w v);clear hk hS a;intro hS a hk)|refine wx0 ?_|fail))
        refine sg hk (g_subB hk ?_ (hlo := by omega) (hhi := by omega));clear hk a;intro a hk
        (repeat' (first|((first|refine wx1 ?_|refine wx2 ?_ ?_<;>intro hp|refine s_end hk ?_)<;>(clear hk a;intro a hk))|((first|refine wx3 ?_;intro w b|refine wx4 ?_;intro w|refine wx5 ?_;intro w v);clear hk hS a;intro hS a hk)|refine wx0 ?_|fail))
        rw [show (10 : Int) * ((valL (d.data.toList.take i) : Nat) : Int) + (((d[i].toNat : Nat) : Int) - 48) = ((valL (d.data.toList.take (i + 1)) : Nat) : Int) by omega] at hk
        exact ⟨hil, (), hk.sd, hS.sb, trivial⟩
       ·have : i = d.size := by omega
        subst this
        rw [all_full] at hk hvs
        simp only [if_true, if_false, Bool.false_eq_true] at hnum
        (repeat' (first|((first|refine wx1 ?_|refine wx2 ?_ ?_<;>intro hp|refine s_end hk ?_)<;>(clear hk a;intro a hk))|((first|refine wx3 ?_;intro w b|refine wx4 ?_;intro w|refine wx5 ?_;intro w v);clear hk hS a;intro hS a hk)|refine wx0 ?_|fail))
        refine sg hk (g_negW hk ?_ (hlo := by omega) (hhi := by omega));clear hk a;intro a hk
        rw [← hnum] at hk
        by_cases ho : outR nu
        ·have ho' : nu < -2147483648 ∨ 2147483647 < nu := ho
         (repeat' (first|((first|refine wx1 ?_|refine wx2 ?_ ?_<;>intro hp|refine s_end hk ?_)<;>(clear hk a;intro a hk))|((first|refine wx3 ?_;intro w b|refine wx4 ?_;intro w|refine wx5 ?_;intro w v);clear hk hS a;intro hS a hk)|refine wx0 ?_|fail))
         all_goals first
          | exact no (.inr (.inr ho)) _ _ _ hk rfl rfl hS.nil
          | (exfalso;omega)
        ·have ho' : ¬ (nu < -2147483648 ∨ 2147483647 < nu) := ho
         (repeat' (first|((first|refine wx1 ?_|refine wx2 ?_ ?_<;>intro hp|refine s_end hk ?_)<;>(clear hk a;intro a hk))|((first|refine wx3 ?_;intro w b|refine wx4 ?_;intro w|refine wx5 ?_;intro w v);clear hk hS a;intro hS a hk)|refine wx0 ?_|fail))
         all_goals first
          | exact done2 hk (h := ⟨by rw [hnp2 hnb hz ho, hnum], hS.nil⟩)
          | (exfalso;omega)
      | false =>
       (repeat' (first|((first|refine wx1 ?_|refine wx2 ?_ ?_<;>intro hp|refine s_end hk ?_)<;>(clear hk a;intro a hk))|((first|refine wx3 ?_;intro w b|refine wx4 ?_;intro w|refine wx5 ?_;intro w v);clear hk hS a;intro hS a hk)|refine wx0 ?_|fail))
       refine sg hk (g_bytes (s := d) hk hS (by simp only [maxLen];omega) ?_ (ht := sT rfl) (hd := eT rfl) (he := iT rfl));clear hk hS a;intro w b cap fr hc1 hc2 hS a hk
       have hby0 := bys_rd (obj.block (hS.rd (A := obj b (.cells (bytesRow d cap) 5 fr)) atx)) hc1 hc2
       have hbl := bys_len d
       (repeat' (first|((first|refine wx1 ?_|refine wx2 ?_ ?_<;>intro hp|refine s_end hk ?_)<;>(clear hk a;intro a hk))|((first|refine wx3 ?_;intro w b|refine wx4 ?_;intro w|refine wx5 ?_;intro w v);clear hk hS a;intro hS a hk)|refine wx0 ?_|fail))
       rw [hbl] at hk
       replace hk := Kn.kp [5, 6, 40, 41, 42] hk
       refine wp_for d.size (fun i _ => [(6, .int .i64 (valL (d.data.toList.take i) : Nat)), (42, .int .i64 (i : Int))]) (fun _ _ => [obj b (.cells (bytesRow d cap) 5 fr)]) (fun _ _ => True) () hk skx hS.sb trivial ?_
       clear hk hS a
       rintro i - a w hi hk hS -
       have hby := bys_rd (obj.block (hS.rd (A := obj b (.cells (bytesRow d cap) 5 fr)) atx)) hc1 hc2
       have hvs := val_small (l := d.data.toList.take i) (by rw [List.length_take, ← hds];omega) (all_tk hall)
       by_cases hil : i < d.size
       ·have hx : (bysF d)[i]? = some d[i] := byte_at hil
        have hvt := val_take hil
        have hdg := dig_at hil hall
        (repeat' (first|((first|refine wx1 ?_|refine wx2 ?_ ?_<;>intro hp|refine s_end hk ?_)<;>(clear hk a;intro a hk))|((first|refine wx3 ?_;intro w b|refine wx4 ?_;intro w|refine wx5 ?_;intro w v);clear hk hS a;intro hS a hk)|refine wx0 ?_|fail))
        refine sg hk (g_mul hk ?_ (hlo := by omega) (hhi := by omega));clear hk a;intro a hk
        (repeat' (first|((first|refine wx1 ?_|refine wx2 ?_ ?_<;>intro hp|refine s_end hk ?_)<;>(clear hk a;intro a hk))|((first|refine wx3 ?_;intro w b|refine wx4 ?_;intro w|refine wx5 ?_;intro w v);clear hk hS a;intro hS a hk)|refine wx0 ?_|fail))
        refine sg hk (g_subB hk ?_ (hlo := by omega) (hhi := by omega));clear hk a;intro a hk
        (repeat' (first|((first|refine wx1 ?_|refine wx2 ?_ ?_<;>intro hp|refine s_end hk ?_)<;>(clear hk a;intro a hk))|((first|refine wx3 ?_;intro w b|refine wx4 ?_;intro w|refine wx5 ?_;intro w v);clear hk hS a;intro hS a hk)|refine wx0 ?_|fail))
        rw [show (10 : Int) * ((valL (d.data.toList.take i) : Nat) : Int) + (((d[i].toNat : Nat) : Int) - 48) = ((valL (d.data.toList.take (i + 1)) : Nat) : Int) by omega] at hk
        exact ⟨hil, (), hk.sd, hS.sb, trivial⟩
       ·have : i = d.size := by omega
        subst this
        rw [all_full] at hk hvs
        simp only [if_true, if_false, Bool.false_eq_true] at hnum
        rw [← hnum] at hk
        by_cases ho : outR nu
        ·have ho' : nu < -2147483648 ∨ 2147483647 < nu := ho
         (repeat' (first|((first|refine wx1 ?_|refine wx2 ?_ ?_<;>intro hp|refine s_end hk ?_)<;>(clear hk a;intro a hk))|((first|refine wx3 ?_;intro w b|refine wx4 ?_;intro w|refine wx5 ?_;intro w v);clear hk hS a;intro hS a hk)|refine wx0 ?_|fail))
         all_goals first
          | exact no (.inr (.inr ho)) _ _ _ hk rfl rfl hS.nil
          | (exfalso;omega)
        ·have ho' : ¬ (nu < -2147483648 ∨ 2147483647 < nu) := ho
         (repeat' (first|((first|refine wx1 ?_|refine wx2 ?_ ?_<;>intro hp|refine s_end hk ?_)<;>(clear hk a;intro a hk))|((first|refine wx3 ?_;intro w b|refine wx4 ?_;intro w|refine wx5 ?_;intro w v);clear hk hS a;intro hS a hk)|refine wx0 ?_|fail))
         all_goals first
          | exact done2 hk (h := ⟨by rw [hnp2 hnb hz ho, hnum], hS.nil⟩)
          | (exfalso;omega)
  ·have hn := hbad.2 (.inr (.inl (by omega)))
   (repeat' (first|((first|refine wx1 ?_|refine wx2 ?_ ?_<;>intro hp|refine s_end hk ?_)<;>(clear hk a;intro a hk))|((first|refine wx3 ?_;intro w b|refine wx4 ?_;intro w|refine wx5 ?_;intro w v);clear hk hS a;intro hS a hk)|refine wx0 ?_|fail))
   exact no (.inl hn) _ _ _ hk rfl rfl hS
end Go.Proofs.YtnjmonkehjlaoaaGreatDoor
namespace Go.Proofs.YtnjmonkehjlaoaaGreatDoor
open Go.RowKit
set_option maxRecDepth 100000
attribute [local irreducible] Go.Code.wpIn Go.wpListIn Go.Calls Gives Go.Exit.then Go.Exit.inBlock Done ObxE
theorem setI_any (l : List PrI) (k : ByteArray) (x : Int) (v : Value) (w0 : World) (hv : SlT l v w0) (hl : l.length ≤ 30000) :
  Calls Tryz.prog 103 #[v, .string k, .int .i64 x] w0 (Ret fun v w => St w0 [OwT 140 (putF nmI (snapF nmI l) (k, x)) v] w) := by
 have hsl := snap_len nmI l
 refine enter Tryz.func103 rfl Tryz.ntmps103 rfl (fun a hk => ?_);have hS := St.refl w0
 (repeat' (first|((first|refine wx1 ?_|refine wx2 ?_ ?_<;>intro hp|refine s_end hk ?_)<;>(clear hk a;intro a hk))|((first|refine wx3 ?_;intro w b|refine wx4 ?_;intro w|refine wx5 ?_;intro w v);clear hk hS a;intro hS a hk)|refine wx0 ?_|fail))
 refine sg hk (g_callO hk (hf := by kernel_rfl) (hc := ofI_any l v _ (hS.rdT hv) hl) (h := ?_));clear hk a;rintro vs w hS1 a hk;replace hS := hS.call hS1;clear hS1
 (repeat' (first|((first|refine wx1 ?_|refine wx2 ?_ ?_<;>intro hp|refine s_end hk ?_)<;>(clear hk a;intro a hk))|((first|refine wx3 ?_;intro w b|refine wx4 ?_;intro w|refine wx5 ?_;intro w v);clear hk hS a;intro hS a hk)|refine wx0 ?_|fail))
 refine sg hk (g_callO hk (hf := by kernel_rfl) (hc := putI_any (s := snapF nmI l) (v := vs) (L := []) ((k, x) : PrI) (hS.sub (by (repeat (first | exact Sub.nil | exact Sub.refl | refine Sub.cons atx ?_)))) (by omega) (snap_rises nmI l)) (h := ?_));clear hk hS a;intro vr w hS a hk
 (repeat' (first|((first|refine wx1 ?_|refine wx2 ?_ ?_<;>intro hp|refine s_end hk ?_)<;>(clear hk a;intro a hk))|((first|refine wx3 ?_;intro w b|refine wx4 ?_;intro w|refine wx5 ?_;intro w v);clear hk hS a;intro hS a hk)|refine wx0 ?_|fail))
 exact done1 hk (h := hS)
theorem setS_any (l : List PrS) (k : ByteArray) (x : ByteArray) (v : Value) (w0 : World) (hv : SlT l v w0) (hl : l.length ≤ 30000) :
  Calls Tryz.prog 100 #[v, .string k, .string x] w0 (Ret fun v w => St w0 [OwT 139 (putF nmS (snapF nmS l) (k, x)) v] w) := by
 have hsl := snap_len nmS l
 refine enter Tryz.func100 rfl Tryz.ntmps100 rfl (fun a hk => ?_);have hS := St.refl w0
 (repeat' (first|((first|refine wx1 ?_|refine wx2 ?_ ?_<;>intro hp|refine s_end hk ?_)<;>(clear hk a;intro a hk))|((first|refine wx3 ?_;intro w b|refine wx4 ?_;intro w|refine wx5 ?_;intro w v);clear hk hS a;intro hS a hk)|refine wx0 ?_|fail))
 refine sg hk (g_callO hk (hf := by kernel_rfl) (hc := ofS_any l v _ (hS.rdT hv) hl) (h := ?_));clear hk a;rintro vs w hS1 a hk;replace hS := hS.call hS1;clear hS1
 (repeat' (first|((first|refine wx1 ?_|refine wx2 ?_ ?_<;>intro hp|refine s_end hk ?_)<;>(clear hk a;intro a hk))|((first|refine wx3 ?_;intro w b|refine wx4 ?_;intro w|refine wx5 ?_;intro w v);clear hk hS a;intro hS a hk)|refine wx0 ?_|fail))
 refine sg hk (g_callO hk (hf := by kernel_rfl) (hc := putS_any (s := snapF nmS l) (v := vs) (L := []) ((k, x) : PrS) (hS.sub (by (repeat (first | exact Sub.nil | exact Sub.refl | refine Sub.cons atx ?_)))) (by omega) (snap_rises nmS l)) (h := ?_));clear hk hS a;intro vr w hS a hk
 (repeat' (first|((first|refine wx1 ?_|refine wx2 ?_ ?_<;>intro hp|refine s_end hk ?_)<;>(clear hk a;intro a hk))|((first|refine wx3 ?_;intro w b|refine wx4 ?_;intro w|refine wx5 ?_;intro w v);clear hk hS a;intro hS a hk)|refine wx0 ?_|fail))
 exact done1 hk (h := hS)
abbrev encT : ByteArray → Value := fun s => .string s
theorem keyT8 : KeyT Tryz.prog 9 encT := keyStr (sT rfl)
abbrev seenM (l : List ByteArray) : List (ByteArray × Value) := l.map (fun x => (x, Value.int .i64 1))
theorem seen_keys (l : List ByteArray) : (seenM l).map Prod.fst = l := by simp [seenM, Function.comp_def]
theorem seen_get_no {l : List ByteArray} {k : ByteArray} (h : k ∉ l) : getL (seenM l) k = none := getL_none (by rw [seen_keys]; exact h)
theorem seen_get_yes : ∀ {l : List ByteArray} {k : ByteArray}, k ∈ l → getL (seenM l) k = some (.int .i64 1)
 | [], _, h => by cases h
 | x :: l, k, h => by
  show getL ((x, Value.int .i64 1) :: seenM l) k = _
  rw [getL_cons]
  by_cases e : k = x
  ·rw [if_pos e]
  ·rw [if_neg e];exact seen_get_yes (by simpa [e] using h)
theorem seen_set_no {l : List ByteArray} {k : ByteArray} (h : k ∉ l) : setL (seenM l) k (.int .i64 1) = seenM (l ++ [k]) := by
 have : ∀ (l : List ByteArray), k ∉ l → setL (seenM l) k (.int .i64 1) = seenM l ++ [(k, .int .i64 1)] := by
  intro l
  induction l with
  | nil => intro _;rfl
  | cons x l ih =>
   intro h
   have hx : ¬ k = x := fun e => h (by simp [e])
   show setL ((x, Value.int .i64 1) :: seenM l) k _ = _
   simp only [setL]
   rw [if_neg hx, ih (fun h' => h (List.mem_cons_of_mem _ h'))];rfl
 rw [this l h];simp [seenM]
section
variable {B : Bs} {L : List HP} {w : World}
theorem once_no {l : List ByteArray} {k : ByteArray} {vm : Value} (h : k ∉ l) (hS : St B (mapH encT vm (seenM l) :: L) w) :
  Calls Tryz.prog 112 #[vm, .string k] w (Ret fun v w' => v = .bool true ∧ St B (mapH encT vm (seenM (l ++ [k])) :: L) w') := by
 refine enter Tryz.func112 rfl Tryz.ntmps112 rfl (fun a hk => ?_)
 (repeat' (first|((first|refine wx1 ?_|refine wx2 ?_ ?_<;>intro hp|refine s_end hk ?_)<;>(clear hk a;intro a hk))|((first|refine wx3 ?_;intro w b|refine wx4 ?_;intro w|refine wx5 ?_;intro w v);clear hk hS a;intro hS a hk)|refine wx0 ?_|fail))
 refine sg hk (g_lookup (k := k) hk (hS.rd (A := mapH encT vm _) atx) ?_ (mT rfl) keyT8 (oT rfl));clear hk a;intro a hk
 rw [seen_get_no h] at hk
 (repeat' (first|((first|refine wx1 ?_|refine wx2 ?_ ?_<;>intro hp|refine s_end hk ?_)<;>(clear hk a;intro a hk))|((first|refine wx3 ?_;intro w b|refine wx4 ?_;intro w|refine wx5 ?_;intro w v);clear hk hS a;intro hS a hk)|refine wx0 ?_|fail))
 refine su hk (g_mapUpdate (k := k) (u := .int .i64 1) hk hS ?_ (mT rfl) keyT8);clear hk hS a;intro w hS a hk
 rw [seen_set_no h] at hS
 (repeat' (first|((first|refine wx1 ?_|refine wx2 ?_ ?_<;>intro hp|refine s_end hk ?_)<;>(clear hk a;intro a hk))|((first|refine wx3 ?_;intro w b|refine wx4 ?_;intro w|refine wx5 ?_;intro w v);clear hk hS a;intro hS a hk)|refine wx0 ?_|fail))
 refine sg hk (g_lookup (k := k) hk (hS.rd (A := mapH encT vm _) atx) ?_ (mT rfl) keyT8 (oT rfl));clear hk a;intro a hk
 rw [seen_get_yes (by simp)] at hk
 (repeat' (first|((first|refine wx1 ?_|refine wx2 ?_ ?_<;>intro hp|refine s_end hk ?_)<;>(clear hk a;intro a hk))|((first|refine wx3 ?_;intro w b|refine wx4 ?_;intro w|refine wx5 ?_;intro w v);clear hk hS a;intro hS a hk)|refine wx0 ?_|fail))
 exact done1 hk (h := ⟨rfl, hS⟩)
theorem once_yes {l : List ByteArray} {k : ByteArray} {vm : Value} (h : k ∈ l) (hS : St B (mapH encT vm (seenM l) :: L) w) :
  Calls Tryz.prog 112 #[vm, .string k] w (Ret fun v w' => v = .bool false ∧ St B L w') := by
 refine enter Tryz.func112 rfl Tryz.ntmps112 rfl (fun a hk => ?_)
 (repeat' (first|((first|refine wx1 ?_|refine wx2 ?_ ?_<;>intro hp|refine s_end hk ?_)<;>(clear hk a;intro a hk))|((first|refine wx3 ?_;intro w b|refine wx4 ?_;intro w|refine wx5 ?_;intro w v);clear hk hS a;intro hS a hk)|refine wx0 ?_|fail))
 refine sg hk (g_lookup (k := k) hk (hS.rd (A := mapH encT vm _) atx) ?_ (mT rfl) keyT8 (oT rfl));clear hk a;intro a hk
 rw [seen_get_yes h] at hk
 (repeat' (first|((first|refine wx1 ?_|refine wx2 ?_ ?_<;>intro hp|refine s_end hk ?_)<;>(clear hk a;intro a hk))|((first|refine wx3 ?_;intro w b|refine wx4 ?_;intro w|refine wx5 ?_;intro w v);clear hk hS a;intro hS a hk)|refine wx0 ?_|fail))
 refine su hk (g_mapUpdate (k := k) (u := .int .i64 2) hk hS ?_ (mT rfl) keyT8);clear hk hS a;intro w hS a hk
 (repeat' (first|((first|refine wx1 ?_|refine wx2 ?_ ?_<;>intro hp|refine s_end hk ?_)<;>(clear hk a;intro a hk))|((first|refine wx3 ?_;intro w b|refine wx4 ?_;intro w|refine wx5 ?_;intro w v);clear hk hS a;intro hS a hk)|refine wx0 ?_|fail))
 refine sg hk (g_lookup (k := k) hk (hS.rd (A := mapH encT vm _) atx) ?_ (mT rfl) keyT8 (oT rfl));clear hk a;intro a hk
 rw [getL_set, if_pos rfl] at hk
 (repeat' (first|((first|refine wx1 ?_|refine wx2 ?_ ?_<;>intro hp|refine s_end hk ?_)<;>(clear hk a;intro a hk))|((first|refine wx3 ?_;intro w b|refine wx4 ?_;intro w|refine wx5 ?_;intro w v);clear hk hS a;intro hS a hk)|refine wx0 ?_|fail))
 exact done1 hk (h := ⟨rfl, hS.sub (by first | exact Sub.cons_drop | (repeat (first | exact Sub.refl | apply Sub.under)))⟩)
theorem once_any {l : List ByteArray} {k : ByteArray} {vm : Value} (hS : St B (mapH encT vm (seenM l) :: L) w) :
  Calls Tryz.prog 112 #[vm, .string k] w (Ret fun v w' => ∃ ok, v = .bool ok ∧ ((ok = true ∧ k ∉ l ∧ St B (mapH encT vm (seenM (l ++ [k])) :: L) w') ∨ (ok = false ∧ k ∈ l ∧ St B L w'))) := by
 by_cases h : k ∈ l
 ·exact (once_yes h hS).mono (fun e w hh => hh.mono (fun v w ⟨h1, h2⟩ => ⟨false, h1, .inr ⟨rfl, h, h2⟩⟩))
 ·exact (once_no h hS).mono (fun e w hh => hh.mono (fun v w ⟨h1, h2⟩ => ⟨true, h1, .inl ⟨rfl, h, h2⟩⟩))
end
end Go.Proofs.YtnjmonkehjlaoaaGreatDoor
