/- Digits of numbers, beginnings of texts: what the library gives. A strings.Builder that a call has made itself. A strings.Builder that is written: what its methods do. A strings.Builder's methods, and strings.Join with blanks, as steps of a call. Layer 19, plain: a log's text. Layer 19: the laws on where hooks lead. -/
import Derived.Test.YteoedhkppmbkoaaDoorK09
import Derived.Test.YteoedhkppmbkoaaDoorShelf
import Derived.Lib.AppendIntMem
import Derived.Lib.LaidTab
import Derived.LaidLaws
import Derived.Shelf.Strings.Builder1
import Derived.Lib.ItoaLen
namespace Go.Proofs.YteoedhkppmbkoaaDoor
open Go.RowKit
set_option maxRecDepth 100000
attribute [local irreducible] Go.Code.wpIn Go.wpListIn Go.Calls Gives Go.Exit.then Go.Exit.inBlock Done ObxE

abbrev TabW (w : World) : Prop := Lib.TabIs Tryd.prog w "internal/strconv.uint64pow10" .u64 Lib.pow10Tab
theorem TabW.mono {w w' : World} (h : TabW w) (hb : Below w.heap.size w w') : TabW w' := Lib.tabBelow_of_tabIs h w' hb
def itoS (n : Int) : ByteArray := ⟨(Lib.itoa n).toArray⟩
theorem itoa_any (n : Int) (h0 : -9223372036854775808 ≤ n) (h1 : n ≤ 9223372036854775807) (w0 : World) (ht : TabW w0) :
    Calls Tryd.prog 41 #[.int .i64 n] w0 (Ret fun v w => v = .string (itoS n) ∧ St w0 [] w) :=
  Calls.mono (Tryd.strconv_Itoa n h0 h1 w0 ht) (fun _ w' ⟨he, k, os, hw⟩ => ⟨_, he, rfl, by
    subst hw
    exact (St.refl w0).new (As := []) (Lib.below_grow _ w0 (Nat.le_refl _) k os) ⟨fun _ => False, fun _ h => h.elim, trivial⟩⟩)
def rsvS (s : ByteArray) : Bool := decide (2 ≤ s.size ∧ s.extract 0 2 = ⟨#[116, 45]⟩)
theorem laid_tail {P : Program} {W : World} {x : String × DataW Unit} {rest : List (String × DataW Unit)} (h : laidMet P (x :: rest) W) : laidMet P rest W := by
  obtain ⟨ps, ⟨g, t, cs, fuel, p, q, h1, h2, h3, h4, hq, he⟩, hn, h6⟩ := h
  subst he
  exact ⟨q, hq, (List.nodup_append.1 hn).2.1, fun b off hm => h6 b off (List.mem_append_right _ hm)⟩
end Go.Proofs.YteoedhkppmbkoaaDoor
namespace Go.Proofs.YteoedhkppmbkoaaDoor
open Go.RowKit
set_option maxRecDepth 100000
attribute [local irreducible] Go.Code.wpIn Go.wpListIn Go.Calls Gives Go.Exit.then Go.Exit.inBlock Done ObxE

def bldIn (T e : TypeId) (B N b : Nat) (l : List UInt8) (w : World) : Prop :=
  B ≤ b ∧ b < N ∧ N ≤ w.heap.size ∧ ∃ p v, (p = .pointer none ∨ p = .pointer (some ⟨b, 0, none⟩)) ∧ w.heap[b]? = some (.cells #[p, v] T (0, 0)) ∧ w.ownsRow B e 1 v (Lib.byteCells l).length (Lib.byteCells l) ∧ v.ownBlock ≠ some b ∧ ∀ g, v.ownBlock = some g → g < N
theorem bldIn.same {T e : TypeId} {B N b : Nat} {l : List UInt8} {w w' : World} (h : bldIn T e B N b l w) (hf : ∀ k, B ≤ k ∧ k < N → w'.heap[k]? = w.heap[k]?) : bldIn T e B N b l w' := by
  obtain ⟨h1, h2, h3, p, v, hp, hb, ho, hn, hg⟩ := h
  have hN : N ≤ w'.heap.size := by
    have hk := hf (N - 1) ⟨by omega, by omega⟩
    rw [Array.getElem?_eq_getElem (by omega : N - 1 < w.heap.size)] at hk
    have := (Array.getElem?_eq_some_iff.1 hk).1
    omega
  refine ⟨h1, h2, hN, p, v, hp, by rw [hf b ⟨h1, h2⟩]; exact hb, ⟨ho.1, ?_⟩, hn, hg⟩
  rcases ho.2 with hz | ⟨g, cap, cur, rfl, hBg, hgg, rest⟩
  · exact .inl hz
  · exact .inr ⟨g, cap, cur, rfl, hBg, by rw [hf g ⟨hBg, hg g rfl⟩]; exact hgg, rest⟩
def blH (T e : TypeId) (b : Nat) (l : List UInt8) : HP where
  holds F w := ∃ B N, (∀ k, F k ↔ B ≤ k ∧ k < N) ∧ bldIn T e B N b l w
  stable := fun F w w' ⟨B, N, hF, h⟩ hs => ⟨B, N, hF, h.same fun k hk => hs k ((hF k).2 hk)⟩
  dom := fun F w k ⟨B, N, hF, h⟩ hk => by
    have := (hF k).1 hk
    obtain ⟨_, _, h3, _⟩ := h
    omega
theorem bldIn.is {T e : TypeId} {B N b : Nat} {l : List UInt8} {w : World} (h : bldIn T e B N b l w) : Lib.IsBuilder T e B b (Lib.byteCells l) w := by
  obtain ⟨h1, _, _, p, v, hp, hb, ho, hn, _⟩ := h
  rcases hp with rfl | rfl
  · exact .inl ⟨h1, v, hb, ho, hn⟩
  · exact .inr ⟨h1, v, hb, ho, hn⟩
theorem bldIn.of {T e : TypeId} {B b : Nat} {l : List UInt8} {w : World} (h : Lib.BuilderAt T e B b (.pointer (some ⟨b, 0, none⟩)) (Lib.byteCells l) w) : bldIn T e B w.heap.size b l w := by
  have hlt := h.lt
  obtain ⟨h1, v, hb, ho, hn⟩ := h
  refine ⟨h1, hlt, Nat.le_refl _, _, v, .inr rfl, hb, ho, hn, fun g hg => ?_⟩
  rcases ho.2 with ⟨rfl, _⟩ | ⟨g', cap, cur, rfl, _, hgg, _⟩
  · cases hg
  · simp only [Value.ownBlock, Option.some.injEq] at hg
    subst hg
    exact (Array.getElem?_eq_some_iff.1 hgg).1
theorem St.bld {w0 w : World} {T e : TypeId} {b : Nat} {l : List UInt8} {L L' : List HP} (hS : St w0 L w) (hat : At (blH T e b l) L L') : ∃ B, w0.heap.size ≤ B ∧ B ≤ w.heap.size ∧ Lib.IsBuilder T e B b (Lib.byteCells l) w := by
  obtain ⟨F, hF, hp⟩ := hS.own
  obtain ⟨F1, F2, h1, h2, h3, ⟨B, N, hFB, hb⟩, h5⟩ := hp.pull hat
  have h := hb
  obtain ⟨g1, g2, g3, _⟩ := h
  have hB := (hF B (h1 B ((hFB B).2 ⟨Nat.le_refl _, by omega⟩))).1.1
  exact ⟨B, hB, by omega, hb.is⟩
theorem St.bldOf {w0 w w' : World} {T e : TypeId} {B b : Nat} {l : List UInt8} {L : List HP} (hS : St w0 L w) (hB : w0.heap.size ≤ B) (hw : Below B w w') (h : Lib.BuilderAt T e B b (.pointer (some ⟨b, 0, none⟩)) (Lib.byteCells l) w') : St w0 [blH T e b l] w' := by
  have hbel : Below w0.heap.size w0 w' := hS.below.trans (hw.mono hB)
  refine ⟨hbel, Frz.of_below hbel, fun k => B ≤ k ∧ k < w'.heap.size, fun k hk => ⟨⟨Nat.le_trans hB hk.1, fun hl => ?_⟩, hk.2⟩, ⟨fun k => B ≤ k ∧ k < w'.heap.size, fun _ => False, fun _ h => h, fun _ h => h.elim, fun _ _ h => h, ⟨B, w'.heap.size, fun _ => Iff.rfl, bldIn.of h⟩, trivial⟩⟩
  have := hl.lt
  have := hk.1
  simp only at *
  omega
theorem St.bldNew {w0 w : World} {T e : TypeId} {b : Nat} {L : List HP} (hS : St w0 (pts b [.pointer none, .slice none 0 0] T :: L) w) : St w0 (blH T e b [] :: L) w := by
  obtain ⟨F, hF, hp⟩ := hS.own
  obtain ⟨F1, F2, h1, h2, h3, h4, h5⟩ := hp
  refine ⟨hS.below, hS.frz, F, hF, F1, F2, h1, h2, h3, ?_, h5⟩
  obtain ⟨hFb, hall, hb⟩ := h4
  have hlt := (Array.getElem?_eq_some_iff.1 hb).1
  have hFk : ∀ k, F1 k ↔ b ≤ k ∧ k < b + 1 := by
    intro k
    constructor
    · intro hk
      have := hall k hk
      omega
    · intro hk
      have : k = b := by omega
      rw [this]
      exact hFb
  exact ⟨b, b + 1, hFk, Nat.le_refl _, by omega, by omega, .pointer none, .slice none 0 0, .inl rfl, hb, World.ownsRow_nil _ _ _ _, by simp [Value.ownBlock], fun g hg => by cases hg⟩
end Go.Proofs.YteoedhkppmbkoaaDoor
namespace Go.Proofs.YteoedhkppmbkoaaDoor
open Go.RowKit Go.Shelf

theorem bInfo : (Tryd.prog.info? 100).map (·.size) = some 2 := by kernel_rfl
theorem bLies : liesAt Tryd.prog Tryd.prog.depth 100 (2 / Tryd.prog.cellsOf 100) 0 100 1 = true := by kernel_rfl
set_option maxHeartbeats 1000000 in
set_option maxRecDepth 100000 in
theorem copyUsed (b : Nat) (w : World) (h0 : w.cell? ⟨b, 0, none⟩ = some (.pointer (some ⟨b, 0, none⟩))) :
    Calls Tryd.prog 72 #[.pointer (some ⟨b, 0, none⟩)] w fun e w' => e = .returned (.tuple #[]) ∧ w' = w := by
  obtain ⟨j, hj, _⟩ := Option.map_eq_some_iff.1 bInfo
  have mixed : Tryd.prog.follows .mixedOrders = true := by kernel_rfl
  have t72 := Tryd.underlying100; have a72 := Tryd.isAgg100; have z72 := Tryd.sizeOf100; have v72 := Tryd.zeroValue100; have u72 := run_underlying t72
  have t70 := Tryd.underlying97; have a70 := Tryd.isAgg97; have z70 := Tryd.sizeOf97; have v70 := Tryd.zeroValue97; have u70 := run_underlying t70
  have t4 := Tryd.underlying4; have a4 := Tryd.isAgg4; have z4 := Tryd.sizeOf4; have v4 := Tryd.zeroValue4; have u4 := run_underlying t4
  have t164 := Tryd.underlying131; have a164 := Tryd.isAgg131; have z164 := Tryd.sizeOf131; have v164 := Tryd.zeroValue131; have u164 := run_underlying t164
  go_enter Tryd.func72, Tryd.ntmps72
  go_wp2
  rw [Lib.run_neq_ptr_same w _ t70 hj]
  go_wp2
  go_end0
  exact ⟨rfl, rfl⟩

set_option maxHeartbeats 1000000 in
set_option maxRecDepth 100000 in
theorem copyFresh (b : Nat) (w : World) (h0 : w.cell? ⟨b, 0, none⟩ = some (.pointer none)) (hsh : w.shape? b = some (100, 2)) (hfz : w.frozen? ⟨b, 0, none⟩ = false) :
    Calls Tryd.prog 72 #[.pointer (some ⟨b, 0, none⟩)] w fun e w' => e = .returned (.tuple #[]) ∧ w' = w.setCell ⟨b, 0, none⟩ (.pointer (some ⟨b, 0, none⟩)) := by
  obtain ⟨j, hj, hjs⟩ := Option.map_eq_some_iff.1 bInfo
  have mixed : Tryd.prog.follows .mixedOrders = true := by kernel_rfl
  have t72 := Tryd.underlying100; have a72 := Tryd.isAgg100; have z72 := Tryd.sizeOf100; have v72 := Tryd.zeroValue100; have u72 := run_underlying t72
  have t70 := Tryd.underlying97; have a70 := Tryd.isAgg97; have z70 := Tryd.sizeOf97; have v70 := Tryd.zeroValue97; have u70 := run_underlying t70
  have t4 := Tryd.underlying4; have a4 := Tryd.isAgg4; have z4 := Tryd.sizeOf4; have v4 := Tryd.zeroValue4; have u4 := run_underlying t4
  have t164 := Tryd.underlying131; have a164 := Tryd.isAgg131; have z164 := Tryd.sizeOf131; have v164 := Tryd.zeroValue131; have u164 := run_underlying t164
  go_enter Tryd.func72, Tryd.ntmps72
  go_wp2
  rw [Lib.run_to_unsafe w ⟨b, 0, none⟩ t70 t164 hj (by rw [hjs]; decide) hsh (Nat.zero_lt_succ 1)]
  simp only [Result.andThen]
  rw [Oper.upon_value]
  go_wp2
  rw [run_callFunc_extern Tryd.func85 (by kernel_rfl) (by kernel_rfl) (by kernel_rfl) (e := Extern.AbiNoEscape.same) (by kernel_rfl)]
  rw [Lib.run_noEscape]
  simp only [Result.andThen]
  rw [Oper.upon_value]
  go_wp2
  rw [Lib.run_from_unsafe w ⟨b, 0, none⟩ t164 t70 hj hsh bLies]
  simp only [Result.andThen]
  rw [Oper.upon_value]
  go_wp2
  go_end0
  exact ⟨rfl, rfl⟩
theorem copyCheck_bld (B b : Nat) (bs : List Value) (w : World) (h : Lib.IsBuilder 100 5 B b bs w) :
    Calls Tryd.prog 72 #[.pointer (some ⟨b, 0, none⟩)] w fun e w' => e = .returned (.tuple #[]) ∧ Lib.BuilderAt 100 5 B b (.pointer (some ⟨b, 0, none⟩)) bs w' ∧ Below B w w' := by
  rcases h with h | h
  · refine (copyFresh b w h.cell0 h.shape h.frozen0).mono ?_
    rintro e w' ⟨he, rfl⟩
    exact ⟨he, h.used _, (Below.refl _ _).setCell (p := ⟨b, 0, none⟩) h.1 _⟩
  · refine (copyUsed b w h.cell0).mono ?_
    rintro e w' ⟨he, rfl⟩
    exact ⟨he, h, Below.refl _ _⟩
set_option maxHeartbeats 1000000 in
set_option maxRecDepth 100000 in
theorem write_bld (B b : Nat) (bs : List Value) (s : ByteArray) (w : World) (h : Lib.IsBuilder 100 5 B b bs w) (hlen : bs.length + s.size ≤ 140737488355328) (hBw : B ≤ w.heap.size) :
    Calls Tryd.prog 54 #[.pointer (some ⟨b, 0, none⟩), .string s] w fun e w' => e = .returned (.tuple #[.int .i64 s.size, .nilIface]) ∧ (Lib.BuilderAt 100 5 B b (.pointer (some ⟨b, 0, none⟩)) (bs ++ Lib.strCells s) w' ∧ Below B w w') := by
  obtain ⟨i0, hi, hz0, hz1, hz2⟩ : ∃ i, Tryd.prog.info? 5 = some i ∧ i.zero = some (.int .u8 0) ∧ i.size = 1 ∧ i.bytes = 1 := by
    have h : (Tryd.prog.info? 5).map (fun i => (i.zero, i.size, i.bytes)) = some (some (.int .u8 0), 1, 1) := by kernel_rfl
    obtain ⟨i, hi, he⟩ := Option.map_eq_some_iff.1 h
    simp only [Prod.mk.injEq] at he
    exact ⟨i, hi, he.1, he.2.1, he.2.2⟩
  have mixed : Tryd.prog.follows .mixedOrders = true := by kernel_rfl
  have t72 := Tryd.underlying100; have a72 := Tryd.isAgg100; have z72 := Tryd.sizeOf100; have v72 := Tryd.zeroValue100; have u72 := run_underlying t72
  have t70 := Tryd.underlying97; have a70 := Tryd.isAgg97; have z70 := Tryd.sizeOf97; have v70 := Tryd.zeroValue97; have u70 := run_underlying t70
  have t4 := Tryd.underlying4; have a4 := Tryd.isAgg4; have z4 := Tryd.sizeOf4; have v4 := Tryd.zeroValue4; have u4 := run_underlying t4
  have t37 := Tryd.underlying98; have a37 := Tryd.isAgg98; have z37 := Tryd.sizeOf98; have v37 := Tryd.zeroValue98; have u37 := run_underlying t37
  have t3 := Tryd.underlying3; have a3 := Tryd.isAgg3; have z3 := Tryd.sizeOf3; have v3 := Tryd.zeroValue3; have u3 := run_underlying t3
  have t9 := Tryd.underlying9; have a9 := Tryd.isAgg9; have z9 := Tryd.sizeOf9; have v9 := Tryd.zeroValue9; have u9 := run_underlying t9
  have t5 := Tryd.underlying5; have a5 := Tryd.isAgg5; have z5 := Tryd.sizeOf5; have v5 := Tryd.zeroValue5; have u5 := run_underlying t5
  have e240 : ∀ args w, (callFunc 72 args).run Tryd.prog w = .ok (.enter 72 args) w := enters_of Tryd.func72 (by kernel_rfl) rfl
  go_enter Tryd.func54, Tryd.ntmps54
  go_wp2_with (go_at_fn 72; refine (copyCheck_bld B b bs _ h).mono ?_)
  rintro e w1 ⟨rfl, h1, hb1⟩
  have hlt : b < w1.heap.size := h1.lt
  obtain ⟨hB, v, hbk, hown, hne⟩ := h1
  have c0 : w1.cell? ⟨b, 0, none⟩ = some (.pointer (some ⟨b, 0, none⟩)) := by rw [Lib.cell_of_heap hbk]; rfl
  have c1 : w1.cell? ⟨b, 1, none⟩ = some v := by rw [Lib.cell_of_heap hbk]; rfl
  go_wp2_with (at_builtin; refine Lib.wpList_append_own_string _ rfl _ _ 98 9 rfl B 5 i0 t37 t9 hi hz0 hz1 hz2 _ _ _ rfl hown s rfl ?c3 ?c4 ?c5 ?_)
  case c3 => unfold maxLen; omega
  case c4 => omega
  case c5 => have := hb1.size; omega
  intro v' w2 hown' hgrow _
  have hb2 : w2.heap[b]? = some (.cells #[.pointer (some ⟨b, 0, none⟩), v] 100 (0, 0)) := by
    rw [hgrow.block b hlt (fun e => hne e.symm)]
    exact hbk
  have d0 : w2.cell? ⟨b, 0, none⟩ = some (.pointer (some ⟨b, 0, none⟩)) := by rw [Lib.cell_of_heap hb2]; rfl
  have d1 : w2.cell? ⟨b, 1, none⟩ = some v := by rw [Lib.cell_of_heap hb2]; rfl
  have f1 : w2.frozen? ⟨b, 1, none⟩ = false := Lib.frozen_of_heap hb2 1
  obtain ⟨ao, n', cap, rfl⟩ : ∃ ao n' cap, v' = .slice ao n' cap := by
    rcases hown'.2 with ⟨hv, _⟩ | ⟨g, cap, cur, hv, _⟩
    · exact ⟨_, _, _, hv⟩
    · exact ⟨_, _, _, hv⟩
  go_wp2
  go_ret2
  refine ⟨rfl, ?_, ?_⟩
  · exact Lib.BuilderAt.put (T := 100) (e := 5) hB hb2 (bs' := bs ++ Lib.strCells s) (by simpa [Lib.strCells_length] using hown') (by decide)
  · exact (hb1.grown hgrow (by have := hb1.size; omega) (fun k hk => (hown.lt k hk).1)).setCell (p := ⟨b, 1, none⟩) hB _
end Go.Proofs.YteoedhkppmbkoaaDoor
namespace Go.Proofs.YteoedhkppmbkoaaDoor
open Go.RowKit
set_option maxRecDepth 100000
attribute [local irreducible] Go.Code.wpIn Go.wpListIn Go.Calls Gives Go.Exit.then Go.Exit.inBlock Done ObxE

abbrev bldT : TypeId := 100
abbrev bldE : TypeId := 5
theorem writeB_any {w0 w : World} {b : Nat} {l : List UInt8} {L L' : List HP} (s : ByteArray) (hS : St w0 L w) (hlen : l.length + s.size ≤ 100000000000) (hat : At (blH bldT bldE b l) L L' := by (repeat (first | exact At.here | apply At.there))) :
    Calls Tryd.prog 54 #[.pointer (some ⟨b, 0, none⟩), .string s] w (Ret fun v w' => v = .tuple #[.int .i64 s.size, .nilIface] ∧ St w0 [blH bldT bldE b (l ++ s.data.toList)] w') := by
  obtain ⟨B, h1, h2, h3⟩ := hS.bld hat
  refine Calls.mono (write_bld B b _ s w h3 (by rw [Lib.byteCells_length]; omega) h2) (fun e w' ⟨he, h4, h5⟩ => ⟨_, he, rfl, hS.bldOf h1 h5 ?_⟩)
  rw [Lib.byteCells_append, ← Lib.strCells_eq]
  exact h4
theorem below_nil {w0 w w' : World} {L : List HP} {B : Nat} (hS : St w0 L w) (hB : w0.heap.size ≤ B) (hw : Below B w w') : St w0 [] w' :=
  have hbel : Below w0.heap.size w0 w' := hS.below.trans (hw.mono hB)
  ⟨hbel, Frz.of_below hbel, fun _ => False, fun _ h => h.elim, trivial⟩
theorem stringB_any {w0 w : World} {b : Nat} {l : List UInt8} {L L' : List HP} (hS : St w0 L w) (hat : At (blH bldT bldE b l) L L' := by (repeat (first | exact At.here | apply At.there))) :
    Calls Tryd.prog 56 #[.pointer (some ⟨b, 0, none⟩)] w (Ret fun v w' => v = .string ⟨l.toArray⟩ ∧ St w0 [] w') := by
  obtain ⟨B, h1, h2, h3⟩ := hS.bld hat
  exact Calls.mono (Tryd.Builder_String_any B b l w h3 h2) (fun e w' ⟨he, h5⟩ => ⟨_, he, rfl, below_nil hS h1 h5⟩)
theorem growB_any {w0 w : World} {b n : Nat} {L L' : List HP} (hS : St w0 L w) (hn : n ≤ 281474976710656) (hat : At (pts b [.pointer none, .slice none 0 0] bldT) L L' := by (repeat (first | exact At.here | apply At.there))) :
    Calls Tryd.prog 86 #[.pointer (some ⟨b, 0, none⟩), .int .i64 (n : Int)] w (Ret fun v w' => v = .tuple #[] ∧ St w0 [blH bldT bldE b []] w') := by
  obtain ⟨F, hF, hp⟩ := hS.own
  obtain ⟨F1, F2, h1, h2, h3, ⟨hFb, hall, hb⟩, h5⟩ := hp.pull hat
  have hlt := (Array.getElem?_eq_some_iff.1 hb).1
  have hB := (hF b (h1 b hFb)).1.1
  exact Calls.mono (Tryd.Builder_Grow_fresh b b n w (Nat.le_refl _) hb (by omega) hn) (fun e w' ⟨he, h4, h6⟩ => ⟨_, he, rfl, hS.bldOf hB h6 h4⟩)

def joinT (r : List ByteArray) : List UInt8 := r.flatMap (fun y => 32 :: y.data.toList)
def joinL : List ByteArray → List UInt8
  | [] => []
  | x :: r => x.data.toList ++ joinT r
theorem joinT_snoc (r : List ByteArray) (y : ByteArray) : joinT (r ++ [y]) = joinT r ++ (32 :: y.data.toList) := by simp [joinT]
def sumS (l : List ByteArray) : Nat := l.foldl (fun n s => n + s.size) 0
theorem sumS_snoc (l : List ByteArray) (s : ByteArray) : sumS (l ++ [s]) = sumS l + s.size := by simp [sumS]
theorem sumS_take {l : List ByteArray} {X : Nat} (h : ∀ s ∈ l, s.size ≤ X) : ∀ i, i ≤ l.length → sumS (l.take i) ≤ X * i
  | 0, _ => by simp [sumS]
  | i + 1, hi => by
    have hx : l[i]? = some l[i] := List.getElem?_eq_getElem (by omega)
    rw [take_snoc hx, sumS_snoc]
    have h1 := sumS_take h i (by omega)
    have h2 := h l[i] (List.getElem_mem _)
    rw [Nat.mul_add]; omega
theorem joinT_len {l : List ByteArray} {X : Nat} (h : ∀ s ∈ l, s.size ≤ X) : ∀ i, i ≤ l.length → (joinT (l.take i)).length ≤ (X + 1) * i
  | 0, _ => by simp [joinT]
  | i + 1, hi => by
    have hx : l[i]? = some l[i] := List.getElem?_eq_getElem (by omega)
    rw [take_snoc hx, joinT_snoc, List.length_append, List.length_cons]
    have h1 := joinT_len h i (by omega)
    have h2 := h l[i] (List.getElem_mem _)
    have h3 : l[i].data.toList.length = l[i].size := Array.length_toList
    rw [Nat.mul_add]; omega

set_option maxHeartbeats 4000000 in
theorem join_any (x0 x1 : ByteArray) (r : List ByteArray) (hl : r.length ≤ 100000) (hx : ∀ s ∈ x0 :: x1 :: r, s.size ≤ 10000) (v : Value) (w0 : World) (hv : SlT (x0 :: x1 :: r) v w0) :
    Calls Tryd.prog 73 #[v, .string ⟨#[32]⟩] w0 (Ret fun v w => v = .string ⟨(joinL (x0 :: x1 :: r)).toArray⟩ ∧ St w0 [] w) := by
  generalize hX : x0 :: x1 :: r = X at *
  have hXl : X.length = r.length + 2 := by rw [← hX]; simp
  have hX0 : X[0]? = some x0 := by rw [← hX]; rfl
  have h32 : ByteArray.size ⟨#[32]⟩ = 1 := rfl
  refine enter Tryd.func73 rfl Tryd.ntmps73 rfl (fun a hk => ?_); have hS := St.refl w0
  (repeat' (first | (show wpListIn _ _ _ _ _ (_ :: _) _ _; first | (refine wx1 ?_; clear hk a; intro a hk) | (refine wx2 ?_ ?_ <;> (intro hp; clear hk a; intro a hk)) | (refine wx3 ?_; clear hk hS a; intro w b hS a hk) | (refine wx4 ?_; clear hk hS a; intro w hS a hk) | (refine wx5 ?_; clear hk hS a; intro w v hS a hk) | fail) | refine wx0 ?_ | (refine s_end hk ?_; clear hk a; intro a hk) | fail))
  have hQ : ∃ Q : Int, IntKind.i64.wrap ((9223372036854775807 : Int).tdiv ((X.length : Int) - 1)) = Q ∧ 2 ≤ Q ∧ Q ≤ 9223372036854775807 := by
    have h1 : (9223372036854775807 : Int).tdiv ((X.length : Int) - 1) = 9223372036854775807 / ((X.length : Int) - 1) := Int.tdiv_eq_ediv_of_nonneg (by decide)
    have h2 : (2 : Int) ≤ 9223372036854775807 / ((X.length : Int) - 1) := Int.le_ediv_of_mul_le (by omega) (by omega)
    have h3 : (9223372036854775807 : Int) / ((X.length : Int) - 1) ≤ 9223372036854775807 := Int.ediv_le_self _ (by decide)
    exact ⟨_, rfl, by rw [h1, IntWalk.i64_in _ ⟨by omega, h3⟩]; exact h2, by rw [h1, IntWalk.i64_in _ ⟨by omega, h3⟩]; exact h3⟩
  obtain ⟨Q, hQ0, hQ1, hQ2⟩ := hQ
  refine sg hk (g_quo hk ?_ (hq := by omega)); clear hk a; intro a hk
  rw [hQ0] at hk
  (repeat' (first | (show wpListIn _ _ _ _ _ (_ :: _) _ _; first | (refine wx1 ?_; clear hk a; intro a hk) | (refine wx2 ?_ ?_ <;> (intro hp; clear hk a; intro a hk)) | (refine wx3 ?_; clear hk hS a; intro w b hS a hk) | (refine wx4 ?_; clear hk hS a; intro w hS a hk) | (refine wx5 ?_; clear hk hS a; intro w v hS a hk) | fail) | refine wx0 ?_ | (refine s_end hk ?_; clear hk a; intro a hk) | fail))
  refine sg hk (g_mul hk ?_ (hlo := by rw [h32]; omega) (hhi := by rw [h32]; omega)); clear hk a; intro a hk
  rw [h32] at hk
  (repeat' (first | (show wpListIn _ _ _ _ _ (_ :: _) _ _; first | (refine wx1 ?_; clear hk a; intro a hk) | (refine wx2 ?_ ?_ <;> (intro hp; clear hk a; intro a hk)) | (refine wx3 ?_; clear hk hS a; intro w b hS a hk) | (refine wx4 ?_; clear hk hS a; intro w hS a hk) | (refine wx5 ?_; clear hk hS a; intro w v hS a hk) | fail) | refine wx0 ?_ | (refine s_end hk ?_; clear hk a; intro a hk) | fail))
  have e5 : (0 + ((1 : Nat) : Int) * ((X.length : Int) - 1)) = ((X.length - 1 + sumS (X.take 0) : Nat) : Int) := by rw [List.take_zero]; simp only [sumS, List.foldl_nil]; omega
  rw [e5] at hk
  replace hk := Kn.kp [0, 1, 5, 39, 40, 41] hk
  refine wp_for X.length (fun i _ => [(5, .int .i64 ((X.length - 1 + sumS (X.take i) : Nat) : Int)), (41, .int .i64 (i : Int))]) (fun _ _ => []) (fun _ _ => True) () hk (by repeat (first | exact trivial | refine ⟨rfl, ?_⟩)) hS.sb trivial ?_
  clear hk hS a
  rintro i - a w hi hk hS -
  have hb := sumS_take hx i hi
  have hbm : 10000 * i ≤ 10000 * 100002 := Nat.mul_le_mul_left _ (by omega)
  by_cases hil : i < X.length
  · obtain ⟨x, hxi⟩ : ∃ x, X[i]? = some x := ⟨_, List.getElem?_eq_getElem hil⟩
    have hxs := hx x (List.mem_of_getElem? hxi)
    have hst : sumS (X.take (i + 1)) = sumS (X.take i) + x.size := by rw [take_snoc hxi, sumS_snoc]
    (repeat' (first | (show wpListIn _ _ _ _ _ (_ :: _) _ _; first | (refine wx1 ?_; clear hk a; intro a hk) | (refine wx2 ?_ ?_ <;> (intro hp; clear hk a; intro a hk)) | (refine wx3 ?_; clear hk hS a; intro w b hS a hk) | (refine wx4 ?_; clear hk hS a; intro w hS a hk) | (refine wx5 ?_; clear hk hS a; intro w v hS a hk) | fail) | refine wx0 ?_ | (refine s_end hk ?_; clear hk a; intro a hk) | fail))
    have e6 : ((X.length - 1 + sumS (X.take i) : Nat) : Int) + (x.size : Int) = ((X.length - 1 + sumS (X.take (i + 1)) : Nat) : Int) := by rw [hst]; omega
    rw [e6] at hk
    exact ⟨hil, (), hk.sd, hS.sb, trivial⟩
  · have hii : i = X.length := by omega
    subst hii
    rw [List.take_length] at hk hb
    (repeat' (first | (show wpListIn _ _ _ _ _ (_ :: _) _ _; first | (refine wx1 ?_; clear hk a; intro a hk) | (refine wx2 ?_ ?_ <;> (intro hp; clear hk a; intro a hk)) | (refine wx3 ?_; clear hk hS a; intro w b hS a hk) | (refine wx4 ?_; clear hk hS a; intro w hS a hk) | (refine wx5 ?_; clear hk hS a; intro w v hS a hk) | fail) | refine wx0 ?_ | (refine s_end hk ?_; clear hk a; intro a hk) | fail))
    refine sg hk (g_callO hk (hf := by kernel_rfl) (hc := growB_any (n := X.length - 1 + sumS X) hS (by omega)) (h := ?_)); clear hk hS a; rintro _ w ⟨rfl, hS⟩ a hk
    (repeat' (first | (show wpListIn _ _ _ _ _ (_ :: _) _ _; first | (refine wx1 ?_; clear hk a; intro a hk) | (refine wx2 ?_ ?_ <;> (intro hp; clear hk a; intro a hk)) | (refine wx3 ?_; clear hk hS a; intro w b hS a hk) | (refine wx4 ?_; clear hk hS a; intro w hS a hk) | (refine wx5 ?_; clear hk hS a; intro w v hS a hk) | fail) | refine wx0 ?_ | (refine s_end hk ?_; clear hk a; intro a hk) | fail))
    refine sg hk (g_callO hk (hf := by kernel_rfl) (hc := writeB_any (l := []) x0 hS (by have := hx x0 (List.mem_of_getElem? hX0); simp only [List.length_nil]; omega)) (h := ?_)); clear hk hS a; rintro _ w ⟨rfl, hS⟩ a hk
    (repeat' (first | (show wpListIn _ _ _ _ _ (_ :: _) _ _; first | (refine wx1 ?_; clear hk a; intro a hk) | (refine wx2 ?_ ?_ <;> (intro hp; clear hk a; intro a hk)) | (refine wx3 ?_; clear hk hS a; intro w b hS a hk) | (refine wx4 ?_; clear hk hS a; intro w hS a hk) | (refine wx5 ?_; clear hk hS a; intro w v hS a hk) | fail) | refine wx0 ?_ | (refine s_end hk ?_; clear hk a; intro a hk) | fail))
    refine sg hk (g_partF (i := 1) hk ?_ (ht := eT rfl) (hs := (by first | exact St.rdT hS (by assumption) | exact OwT.rd (hS.rd (A := OwT _ _ _) (by (repeat (first | exact At.here | apply At.there)))) | assumption)) (hE := zT rfl) (hi := by omega)); clear hk a; intro vp hvp a hk
    obtain ⟨Y, hY⟩ : ∃ Y, X.drop 1 = Y := ⟨_, rfl⟩
    rw [hY] at hvp
    have hYl : Y.length = X.length - 1 := by rw [← hY, List.length_drop]
    have hYm : ∀ s ∈ Y, s.size ≤ 10000 := fun s hs => hx s (by rw [← hY] at hs; exact List.mem_of_mem_drop hs)
    have hvp0 := hvp w0 hv
    (repeat' (first | (show wpListIn _ _ _ _ _ (_ :: _) _ _; first | (refine wx1 ?_; clear hk a; intro a hk) | (refine wx2 ?_ ?_ <;> (intro hp; clear hk a; intro a hk)) | (refine wx3 ?_; clear hk hS a; intro w b hS a hk) | (refine wx4 ?_; clear hk hS a; intro w hS a hk) | (refine wx5 ?_; clear hk hS a; intro w v hS a hk) | fail) | refine wx0 ?_ | (refine s_end hk ?_; clear hk a; intro a hk) | fail))
    replace hk := Kn.kp [1, 8, 63, 64, 65] hk
    have e7 : ([] ++ x0.data.toList : List UInt8) = x0.data.toList ++ joinT (Y.take 0) := by simp [joinT]
    rw [e7] at hS
    refine wp_for Y.length (fun i _ => [(65, .int .i64 (i : Int))]) (fun i _ => [blH bldT bldE b (x0.data.toList ++ joinT (Y.take i))]) (fun _ _ => True) () hk (by repeat (first | exact trivial | refine ⟨rfl, ?_⟩)) hS.sb trivial ?_
    clear hk hS a
    rintro i - a w hi2 hk hS -
    have hjl := joinT_len hYm i hi2
    have hx0l : x0.data.toList.length = x0.size := Array.length_toList
    have hx0s := hx x0 (List.mem_of_getElem? hX0)
    have hbj : (10000 + 1) * i ≤ (10000 + 1) * 100002 := Nat.mul_le_mul_left _ (by omega)
    have hvp1 := hS.rdT hvp0
    have hll : (x0.data.toList ++ joinT (Y.take i)).length = x0.size + (joinT (Y.take i)).length := by rw [List.length_append, hx0l]
    by_cases hil2 : i < Y.length
    · obtain ⟨y, hyi⟩ : ∃ y, Y[i]? = some y := ⟨_, List.getElem?_eq_getElem hil2⟩
      have hys := hYm y (List.mem_of_getElem? hyi)
      have hst : x0.data.toList ++ joinT (Y.take i) ++ [32] ++ y.data.toList = x0.data.toList ++ joinT (Y.take (i + 1)) := by rw [take_snoc hyi, joinT_snoc]; simp
      generalize x0.data.toList ++ joinT (Y.take i) = Z at *
      (repeat' (first | (show wpListIn _ _ _ _ _ (_ :: _) _ _; first | (refine wx1 ?_; clear hk a; intro a hk) | (refine wx2 ?_ ?_ <;> (intro hp; clear hk a; intro a hk)) | (refine wx3 ?_; clear hk hS a; intro w b hS a hk) | (refine wx4 ?_; clear hk hS a; intro w hS a hk) | (refine wx5 ?_; clear hk hS a; intro w v hS a hk) | fail) | refine wx0 ?_ | (refine s_end hk ?_; clear hk a; intro a hk) | fail))
      refine sg hk (g_callO hk (hf := by kernel_rfl) (hc := writeB_any (l := Z) ⟨#[32]⟩ hS (by omega)) (h := ?_)); clear hk hS a; rintro _ w ⟨rfl, hS⟩ a hk
      rw [show (ByteArray.mk #[32]).data.toList = [32] from rfl] at hS
      (repeat' (first | (show wpListIn _ _ _ _ _ (_ :: _) _ _; first | (refine wx1 ?_; clear hk a; intro a hk) | (refine wx2 ?_ ?_ <;> (intro hp; clear hk a; intro a hk)) | (refine wx3 ?_; clear hk hS a; intro w b hS a hk) | (refine wx4 ?_; clear hk hS a; intro w hS a hk) | (refine wx5 ?_; clear hk hS a; intro w v hS a hk) | fail) | refine wx0 ?_ | (refine s_end hk ?_; clear hk a; intro a hk) | fail))
      refine sg hk (g_callO hk (hf := by kernel_rfl) (hc := writeB_any (l := Z ++ [32]) y hS (by rw [List.length_append, List.length_singleton]; omega)) (h := ?_)); clear hk hS a; rintro _ w ⟨rfl, hS⟩ a hk
      rw [hst] at hS
      (repeat' (first | (show wpListIn _ _ _ _ _ (_ :: _) _ _; first | (refine wx1 ?_; clear hk a; intro a hk) | (refine wx2 ?_ ?_ <;> (intro hp; clear hk a; intro a hk)) | (refine wx3 ?_; clear hk hS a; intro w b hS a hk) | (refine wx4 ?_; clear hk hS a; intro w hS a hk) | (refine wx5 ?_; clear hk hS a; intro w v hS a hk) | fail) | refine wx0 ?_ | (refine s_end hk ?_; clear hk a; intro a hk) | fail))
      exact ⟨hil2, (), hk.sd, hS.sb, trivial⟩
    · have hii : i = Y.length := by omega
      subst hii
      rw [List.take_length] at hS
      (repeat' (first | (show wpListIn _ _ _ _ _ (_ :: _) _ _; first | (refine wx1 ?_; clear hk a; intro a hk) | (refine wx2 ?_ ?_ <;> (intro hp; clear hk a; intro a hk)) | (refine wx3 ?_; clear hk hS a; intro w b hS a hk) | (refine wx4 ?_; clear hk hS a; intro w hS a hk) | (refine wx5 ?_; clear hk hS a; intro w v hS a hk) | fail) | refine wx0 ?_ | (refine s_end hk ?_; clear hk a; intro a hk) | fail))
      refine sg hk (g_callO hk (hf := by kernel_rfl) (hc := stringB_any (l := x0.data.toList ++ joinT Y) hS) (h := ?_)); clear hk hS a; rintro _ w ⟨rfl, hS⟩ a hk
      (repeat' (first | (show wpListIn _ _ _ _ _ (_ :: _) _ _; first | (refine wx1 ?_; clear hk a; intro a hk) | (refine wx2 ?_ ?_ <;> (intro hp; clear hk a; intro a hk)) | (refine wx3 ?_; clear hk hS a; intro w b hS a hk) | (refine wx4 ?_; clear hk hS a; intro w hS a hk) | (refine wx5 ?_; clear hk hS a; intro w v hS a hk) | fail) | refine wx0 ?_ | (refine s_end hk ?_; clear hk a; intro a hk) | fail))
      refine done1 hk (h := ⟨?_, hS.nil⟩)
      rw [← hX, joinL]
      rw [← hX, List.drop_one, List.tail_cons] at hY
      rw [← hY]
end Go.Proofs.YteoedhkppmbkoaaDoor
namespace Go.Proofs.YteoedhkppmbkoaaDoor
open Go.RowKit

def inI (x : Int) : Prop := -9223372036854775808 ≤ x ∧ x ≤ 9223372036854775807
def nmE (ho : Int) : ByteArray := if nameF ho = ⟨#[]⟩ then itoS ho else nameF ho
def lineS (e : Ent) : ByteArray := itoS e.1 ++ ⟨#[32]⟩ ++ e.2.2.2 ++ ⟨#[32]⟩ ++ itoS e.2.1 ++ ⟨#[32]⟩ ++ nmE e.2.2.1 ++ ⟨#[10]⟩
def textF (l : List Ent) : ByteArray := l.foldl (fun s e => s ++ lineS e) ⟨#[]⟩
theorem textF_snoc (l : List Ent) (e : Ent) : textF (l ++ [e]) = textF l ++ lineS e := by simp [textF]
theorem app_list (a b : ByteArray) : (a ++ b).data.toList = a.data.toList ++ b.data.toList := by rw [ByteArray.data_append, Array.toList_append]
theorem ba_ext {a b : ByteArray} (h : a.data.toList = b.data.toList) : a = b := by
  cases a with | mk x => cases b with | mk y => congr 1; exact Array.toList_inj.1 h
theorem line_join (a b c d : ByteArray) : (⟨(joinL [a, b, c, d]).toArray⟩ : ByteArray) ++ ⟨#[10]⟩ = a ++ ⟨#[32]⟩ ++ b ++ ⟨#[32]⟩ ++ c ++ ⟨#[32]⟩ ++ d ++ ⟨#[10]⟩ := by
  refine ba_ext ?_
  simp [app_list, joinL, joinT]
theorem sz32 : ByteArray.size ⟨#[32]⟩ = 1 := rfl
theorem sz10 : ByteArray.size ⟨#[10]⟩ = 1 := rfl
theorem join4_size (a b c d : ByteArray) : (ByteArray.mk (joinL [a, b, c, d]).toArray).size = a.size + b.size + c.size + d.size + 3 := by
  have h := congrArg ByteArray.size (line_join a b c d)
  simp only [ByteArray.size_append, sz32, sz10] at h
  omega
theorem ba_eta (s : ByteArray) : (⟨s.data.toList.toArray⟩ : ByteArray) = s := ba_ext (by simp)
theorem ito_size {n : Int} (h0 : -9223372036854775808 ≤ n) (h1 : n ≤ 9223372036854775807) : (itoS n).size ≤ 21 := by
  have := Lib.itoa_length_le n h0 h1
  have e : (itoS n).size = (Lib.itoa n).length := by unfold itoS; simp [ByteArray.size]
  omega
theorem nameF_size (h : Int) : (nameF h).size ≤ 20 := by
  unfold nameF
  (repeat' split) <;> decide +kernel
def okE64 (e : Ent) : Prop := inI e.1 ∧ inI e.2.1 ∧ inI e.2.2.1 ∧ e.2.2.2.size ≤ 20
theorem nmE_size {ho : Int} (h : inI ho) : (nmE ho).size ≤ 21 := by
  unfold nmE
  split
  · exact ito_size h.1 h.2
  · have := nameF_size ho; omega
theorem line_size {e : Ent} (h : okE64 e) : (lineS e).size ≤ 100 := by
  obtain ⟨h1, h2, h3, h4⟩ := h
  have e1 := ito_size h1.1 h1.2
  have e2 := ito_size h2.1 h2.2
  have e3 := nmE_size h3
  unfold lineS
  simp only [ByteArray.size_append]
  have : ByteArray.size ⟨#[32]⟩ = 1 := rfl
  have : ByteArray.size ⟨#[10]⟩ = 1 := rfl
  omega
theorem text_size : ∀ (l : List Ent), (∀ e ∈ l, okE64 e) → (textF l).size ≤ 100 * l.length := by
  intro l
  have : ∀ r : List Ent, (∀ e ∈ r, okE64 e) → (textF r.reverse).size ≤ 100 * r.length := by
    intro r
    induction r with
    | nil => intro _; decide
    | cons e r ih =>
      intro h
      have h1 := line_size (h e (by simp))
      have h2 := ih fun e he => h e (by simp [he])
      rw [List.reverse_cons, textF_snoc, ByteArray.size_append, List.length_cons]; omega
  intro h
  have := this l.reverse (fun e he => h e (by simpa using he))
  simpa using this
end Go.Proofs.YteoedhkppmbkoaaDoor
namespace Go.Proofs.YteoedhkppmbkoaaDoor
open Go.RowKit
set_option maxRecDepth 100000
attribute [local irreducible] Go.Code.wpIn Go.wpListIn Go.Calls Gives Go.Exit.then Go.Exit.inBlock Done ObxE

theorem awake19_any (w0 : World) (hN : NamesIn w0) : Calls Tryd.prog 11 #[] w0 (Ret fun v w => v = .bool true ∧ St w0 [] w) := by
  refine enter Tryd.func11 rfl Tryd.ntmps11 rfl (fun a hk => ?_); have hS := St.refl w0
  (repeat' (first | (show wpListIn _ _ _ _ _ (_ :: _) _ _; first | (refine wx1 ?_; clear hk a; intro a hk) | (refine wx2 ?_ ?_ <;> (intro hp; clear hk a; intro a hk)) | (refine wx3 ?_; clear hk hS a; intro w b hS a hk) | (refine wx4 ?_; clear hk hS a; intro w hS a hk) | (refine wx5 ?_; clear hk hS a; intro w v hS a hk) | fail) | refine wx0 ?_ | (refine s_end hk ?_; clear hk a; intro a hk) | fail))
  refine sg hk (g_bsT (xs := [(1 : Int), 2, 4, 5]) (m := 3) hk hS ?_ (hT := eT rfl) (hE := zT rfl) (hz := oT rfl)); clear hk hS a; intro w v hS a hk
  refine sg hk (g_callO hk (hf := by kernel_rfl) (hc := run_any [1, 2, 4, 5] v _ (by first | exact St.rdT hS (by assumption) | exact OwT.rd (hS.rd (A := OwT _ _ _) (by (repeat (first | exact At.here | apply At.there)))) | assumption) (by decide)) (h := ?_)); clear hk a; rintro _ w ⟨rfl, hS1⟩ a hk; replace hS := hS.call0 hS1; clear hS1
  rw [show runF 0 [1, 2, 4, 5] = 4 by decide +kernel] at hk
  (repeat' (first | (show wpListIn _ _ _ _ _ (_ :: _) _ _; first | (refine wx1 ?_; clear hk a; intro a hk) | (refine wx2 ?_ ?_ <;> (intro hp; clear hk a; intro a hk)) | (refine wx3 ?_; clear hk hS a; intro w b hS a hk) | (refine wx4 ?_; clear hk hS a; intro w hS a hk) | (refine wx5 ?_; clear hk hS a; intro w v hS a hk) | fail) | refine wx0 ?_ | (refine s_end hk ?_; clear hk a; intro a hk) | fail))
  refine sg hk (g_callO hk (hf := by kernel_rfl) (hc := run_any [2] v _ (by first | exact St.rdT hS (by assumption) | exact OwT.rd (hS.rd (A := OwT _ _ _) (by (repeat (first | exact At.here | apply At.there)))) | assumption) (by decide)) (h := ?_)); clear hk a; rintro _ w ⟨rfl, hS1⟩ a hk; replace hS := hS.call0 hS1; clear hS1
  rw [show runF 0 [2] = -1 by decide +kernel] at hk
  (repeat' (first | (show wpListIn _ _ _ _ _ (_ :: _) _ _; first | (refine wx1 ?_; clear hk a; intro a hk) | (refine wx2 ?_ ?_ <;> (intro hp; clear hk a; intro a hk)) | (refine wx3 ?_; clear hk hS a; intro w b hS a hk) | (refine wx4 ?_; clear hk hS a; intro w hS a hk) | (refine wx5 ?_; clear hk hS a; intro w v hS a hk) | fail) | refine wx0 ?_ | (refine s_end hk ?_; clear hk a; intro a hk) | fail))
  refine sg hk (g_callO hk (hf := by kernel_rfl) (hc := name_any 8 _ (hS.names hN)) (h := ?_)); clear hk a; rintro _ w ⟨rfl, hS1⟩ a hk; replace hS := hS.call0 hS1; clear hS1
  (repeat' (first | (show wpListIn _ _ _ _ _ (_ :: _) _ _; first | (refine wx1 ?_; clear hk a; intro a hk) | (refine wx2 ?_ ?_ <;> (intro hp; clear hk a; intro a hk)) | (refine wx3 ?_; clear hk hS a; intro w b hS a hk) | (refine wx4 ?_; clear hk hS a; intro w hS a hk) | (refine wx5 ?_; clear hk hS a; intro w v hS a hk) | fail) | refine wx0 ?_ | (refine s_end hk ?_; clear hk a; intro a hk) | fail))
  exact done1 hk (h := ⟨rfl, hS.nil⟩)

end Go.Proofs.YteoedhkppmbkoaaDoor
