/- A strings.Builder that a call has made itself. A strings.Builder that is written: what its methods do. A strings.Builder's methods, and strings.Join with blanks, as steps of a call. Layer 9, plain: a tree's text. -/
import Derived.Test.YtkcjkbnbblpomaaGreatDoorT18
import Derived.Shelf.Strings.Builder1
import Derived.Test.YtkcjkbnbblpomaaGreatDoorT12
import Derived.Lib.ItoaLen
set_option linter.all false
namespace Go.Proofs.YtkcjkbnbblpomaaGreatDoor
open Go.RowKit
set_option maxRecDepth 100000
attribute [local irreducible] Go.Code.wpIn Go.wpListIn Go.Calls Gives Go.Exit.then Go.Exit.inBlock Done ObxE

def bldIn (T e : TypeId) (B N b : Nat) (l : List UInt8) (w : World) : Prop :=
  B ≤ b ∧ b < N ∧ N ≤ w.heap.size ∧ ∃ p v, (p = .pointer none ∨ p = .pointer (some ⟨b, 0, none⟩)) ∧ w.heap[b]? = some (.cells #[p, v] T (0, 0)) ∧ w.ownsRow B e 1 v (Lib.byteCells l).length (Lib.byteCells l) ∧ v.ownBlock ≠ some b ∧ ∀ g, v.ownBlock = some g → g < N
theorem bldIn.same {T e : TypeId} {B N b : Nat} {l : List UInt8} {w w' : World} (h : bldIn T e B N b l w) (hf : ∀ k, B ≤ k ∧ k < N → w'.heap[k]? = w.heap[k]?) : bldIn T e B N b l w' := by
  obtain ⟨h1, h2, h3, p, v, hp, hb, ho, hn, hg⟩ := h
  have hN : N ≤ w'.heap.size := by
    have hk := hf (N - 1) ⟨by omega, by omega⟩
    rw [Array.getElem?_eq_getElem (by omega : N - 1 < w.heap.size)] at hk
    have := (Array.getElem?_eq_some_iff.1 hk).1
    omega
  refine ⟨h1, h2, hN, p, v, hp, by rw [hf b ⟨h1, h2⟩]; exact hb, ⟨ho.1, ?_⟩, hn, hg⟩
  rcases ho.2 with hz | ⟨g, cap, cur, rfl, hBg, hgg, rest⟩
  · exact .inl hz
  · exact .inr ⟨g, cap, cur, rfl, hBg, by rw [hf g ⟨hBg, hg g rfl⟩]; exact hgg, rest⟩
def blH (T e : TypeId) (b : Nat) (l : List UInt8) : HP where
  holds F w := ∃ B N, (∀ k, F k ↔ B ≤ k ∧ k < N) ∧ bldIn T e B N b l w
  stable := fun F w w' ⟨B, N, hF, h⟩ hs => ⟨B, N, hF, h.same fun k hk => hs k ((hF k).2 hk)⟩
  dom := fun F w k ⟨B, N, hF, h⟩ hk => by
    have := (hF k).1 hk
    obtain ⟨_, _, h3, _⟩ := h
    omega
theorem bldIn.is {T e : TypeId} {B N b : Nat} {l : List UInt8} {w : World} (h : bldIn T e B N b l w) : Lib.IsBuilder T e B b (Lib.byteCells l) w := by
  obtain ⟨h1, _, _, p, v, hp, hb, ho, hn, _⟩ := h
  rcases hp with rfl | rfl
  · exact .inl ⟨h1, v, hb, ho, hn⟩
  · exact .inr ⟨h1, v, hb, ho, hn⟩
theorem bldIn.of {T e : TypeId} {B b : Nat} {l : List UInt8} {w : World} (h : Lib.BuilderAt T e B b (.pointer (some ⟨b, 0, none⟩)) (Lib.byteCells l) w) : bldIn T e B w.heap.size b l w := by
  have hlt := h.lt
  obtain ⟨h1, v, hb, ho, hn⟩ := h
  refine ⟨h1, hlt, Nat.le_refl _, _, v, .inr rfl, hb, ho, hn, fun g hg => ?_⟩
  rcases ho.2 with ⟨rfl, _⟩ | ⟨g', cap, cur, rfl, _, hgg, _⟩
  · cases hg
  · simp only [Value.ownBlock, Option.some.injEq] at hg
    subst hg
    exact (Array.getElem?_eq_some_iff.1 hgg).1
theorem St.bld {w0 w : World} {T e : TypeId} {b : Nat} {l : List UInt8} {L L' : List HP} (hS : St w0 L w) (hat : At (blH T e b l) L L') : ∃ B, w0.heap.size ≤ B ∧ B ≤ w.heap.size ∧ Lib.IsBuilder T e B b (Lib.byteCells l) w := by
  obtain ⟨F, hF, hp⟩ := hS.own
  obtain ⟨F1, F2, h1, h2, h3, ⟨B, N, hFB, hb⟩, h5⟩ := hp.pull hat
  have h := hb
  obtain ⟨g1, g2, g3, _⟩ := h
  have hB := (hF B (h1 B ((hFB B).2 ⟨Nat.le_refl _, by omega⟩))).1.1
  exact ⟨B, hB, by omega, hb.is⟩
theorem St.bldOf {w0 w w' : World} {T e : TypeId} {B b : Nat} {l : List UInt8} {L : List HP} (hS : St w0 L w) (hB : w0.heap.size ≤ B) (hw : Below B w w') (h : Lib.BuilderAt T e B b (.pointer (some ⟨b, 0, none⟩)) (Lib.byteCells l) w') : St w0 [blH T e b l] w' := by
  have hbel : Below w0.heap.size w0 w' := hS.below.trans (hw.mono hB)
  refine ⟨hbel, Frz.of_below hbel, fun k => B ≤ k ∧ k < w'.heap.size, fun k hk => ⟨⟨Nat.le_trans hB hk.1, fun hl => ?_⟩, hk.2⟩, ⟨fun k => B ≤ k ∧ k < w'.heap.size, fun _ => False, fun _ h => h, fun _ h => h.elim, fun _ _ h => h, ⟨B, w'.heap.size, fun _ => Iff.rfl, bldIn.of h⟩, trivial⟩⟩
  have := hl.lt
  have := hk.1
  simp only at *
  omega
end Go.Proofs.YtkcjkbnbblpomaaGreatDoor
namespace Go.Proofs.YtkcjkbnbblpomaaGreatDoor
open Go.RowKit Go.Shelf

theorem bInfo : (Tryz.prog.info? 165).map (·.size) = some 2 := by kernel_rfl
theorem bLies : liesAt Tryz.prog Tryz.prog.depth 165 (2 / Tryz.prog.cellsOf 165) 0 165 1 = true := by kernel_rfl
set_option maxHeartbeats 1000000 in
set_option maxRecDepth 100000 in
theorem copyUsed (b : Nat) (w : World) (h0 : w.cell? ⟨b, 0, none⟩ = some (.pointer (some ⟨b, 0, none⟩))) :
    Calls Tryz.prog 145 #[.pointer (some ⟨b, 0, none⟩)] w fun e w' => e = .returned (.tuple #[]) ∧ w' = w := by
  obtain ⟨j, hj, _⟩ := Option.map_eq_some_iff.1 bInfo
  have mixed : Tryz.prog.follows .mixedOrders = true := by kernel_rfl
  have t72 := Tryz.underlying165; have a72 := Tryz.isAgg165; have z72 := Tryz.sizeOf165; have v72 := Tryz.zeroValue165; have u72 := run_underlying t72
  have t70 := Tryz.underlying162; have a70 := Tryz.isAgg162; have z70 := Tryz.sizeOf162; have v70 := Tryz.zeroValue162; have u70 := run_underlying t70
  have t4 := Tryz.underlying4; have a4 := Tryz.isAgg4; have z4 := Tryz.sizeOf4; have v4 := Tryz.zeroValue4; have u4 := run_underlying t4
  have t164 := Tryz.underlying229; have a164 := Tryz.isAgg229; have z164 := Tryz.sizeOf229; have v164 := Tryz.zeroValue229; have u164 := run_underlying t164
  go_enter Tryz.func145, Tryz.ntmps145
  go_wp2
  rw [Lib.run_neq_ptr_same w _ t70 hj]
  go_wp2
  go_end0
  exact ⟨rfl, rfl⟩

set_option maxHeartbeats 1000000 in
set_option maxRecDepth 100000 in
theorem copyFresh (b : Nat) (w : World) (h0 : w.cell? ⟨b, 0, none⟩ = some (.pointer none)) (hsh : w.shape? b = some (165, 2)) (hfz : w.frozen? ⟨b, 0, none⟩ = false) :
    Calls Tryz.prog 145 #[.pointer (some ⟨b, 0, none⟩)] w fun e w' => e = .returned (.tuple #[]) ∧ w' = w.setCell ⟨b, 0, none⟩ (.pointer (some ⟨b, 0, none⟩)) := by
  obtain ⟨j, hj, hjs⟩ := Option.map_eq_some_iff.1 bInfo
  have mixed : Tryz.prog.follows .mixedOrders = true := by kernel_rfl
  have t72 := Tryz.underlying165; have a72 := Tryz.isAgg165; have z72 := Tryz.sizeOf165; have v72 := Tryz.zeroValue165; have u72 := run_underlying t72
  have t70 := Tryz.underlying162; have a70 := Tryz.isAgg162; have z70 := Tryz.sizeOf162; have v70 := Tryz.zeroValue162; have u70 := run_underlying t70
  have t4 := Tryz.underlying4; have a4 := Tryz.isAgg4; have z4 := Tryz.sizeOf4; have v4 := Tryz.zeroValue4; have u4 := run_underlying t4
  have t164 := Tryz.underlying229; have a164 := Tryz.isAgg229; have z164 := Tryz.sizeOf229; have v164 := Tryz.zeroValue229; have u164 := run_underlying t164
  go_enter Tryz.func145, Tryz.ntmps145
  go_wp2
  rw [Lib.run_to_unsafe w ⟨b, 0, none⟩ t70 t164 hj (by rw [hjs]; decide) hsh (Nat.zero_lt_succ 1)]
  simp only [Result.andThen]
  rw [Oper.upon_value]
  go_wp2
  rw [run_callFunc_extern Tryz.func182 (by kernel_rfl) (by kernel_rfl) (by kernel_rfl) (e := Extern.AbiNoEscape.same) (by kernel_rfl)]
  rw [Lib.run_noEscape]
  simp only [Result.andThen]
  rw [Oper.upon_value]
  go_wp2
  rw [Lib.run_from_unsafe w ⟨b, 0, none⟩ t164 t70 hj hsh bLies]
  simp only [Result.andThen]
  rw [Oper.upon_value]
  go_wp2
  go_end0
  exact ⟨rfl, rfl⟩
theorem copyCheck_bld (B b : Nat) (bs : List Value) (w : World) (h : Lib.IsBuilder 165 5 B b bs w) :
    Calls Tryz.prog 145 #[.pointer (some ⟨b, 0, none⟩)] w fun e w' => e = .returned (.tuple #[]) ∧ Lib.BuilderAt 165 5 B b (.pointer (some ⟨b, 0, none⟩)) bs w' ∧ Below B w w' := by
  rcases h with h | h
  · refine (copyFresh b w h.cell0 h.shape h.frozen0).mono ?_
    rintro e w' ⟨he, rfl⟩
    exact ⟨he, h.used _, (Below.refl _ _).setCell (p := ⟨b, 0, none⟩) h.1 _⟩
  · refine (copyUsed b w h.cell0).mono ?_
    rintro e w' ⟨he, rfl⟩
    exact ⟨he, h, Below.refl _ _⟩
set_option maxHeartbeats 1000000 in
set_option maxRecDepth 100000 in
theorem write_bld (B b : Nat) (bs : List Value) (s : ByteArray) (w : World) (h : Lib.IsBuilder 165 5 B b bs w) (hlen : bs.length + s.size ≤ 140737488355328) (hBw : B ≤ w.heap.size) :
    Calls Tryz.prog 94 #[.pointer (some ⟨b, 0, none⟩), .string s] w fun e w' => e = .returned (.tuple #[.int .i64 s.size, .nilIface]) ∧ (Lib.BuilderAt 165 5 B b (.pointer (some ⟨b, 0, none⟩)) (bs ++ Lib.strCells s) w' ∧ Below B w w') := by
  obtain ⟨i0, hi, hz0, hz1, hz2⟩ : ∃ i, Tryz.prog.info? 5 = some i ∧ i.zero = some (.int .u8 0) ∧ i.size = 1 ∧ i.bytes = 1 := by
    have h : (Tryz.prog.info? 5).map (fun i => (i.zero, i.size, i.bytes)) = some (some (.int .u8 0), 1, 1) := by kernel_rfl
    obtain ⟨i, hi, he⟩ := Option.map_eq_some_iff.1 h
    simp only [Prod.mk.injEq] at he
    exact ⟨i, hi, he.1, he.2.1, he.2.2⟩
  have mixed : Tryz.prog.follows .mixedOrders = true := by kernel_rfl
  have t72 := Tryz.underlying165; have a72 := Tryz.isAgg165; have z72 := Tryz.sizeOf165; have v72 := Tryz.zeroValue165; have u72 := run_underlying t72
  have t70 := Tryz.underlying162; have a70 := Tryz.isAgg162; have z70 := Tryz.sizeOf162; have v70 := Tryz.zeroValue162; have u70 := run_underlying t70
  have t4 := Tryz.underlying4; have a4 := Tryz.isAgg4; have z4 := Tryz.sizeOf4; have v4 := Tryz.zeroValue4; have u4 := run_underlying t4
  have t37 := Tryz.underlying163; have a37 := Tryz.isAgg163; have z37 := Tryz.sizeOf163; have v37 := Tryz.zeroValue163; have u37 := run_underlying t37
  have t3 := Tryz.underlying3; have a3 := Tryz.isAgg3; have z3 := Tryz.sizeOf3; have v3 := Tryz.zeroValue3; have u3 := run_underlying t3
  have t9 := Tryz.underlying9; have a9 := Tryz.isAgg9; have z9 := Tryz.sizeOf9; have v9 := Tryz.zeroValue9; have u9 := run_underlying t9
  have t5 := Tryz.underlying5; have a5 := Tryz.isAgg5; have z5 := Tryz.sizeOf5; have v5 := Tryz.zeroValue5; have u5 := run_underlying t5
  have e240 : ∀ args w, (callFunc 145 args).run Tryz.prog w = .ok (.enter 145 args) w := enters_of Tryz.func145 (by kernel_rfl) rfl
  go_enter Tryz.func94, Tryz.ntmps94
  go_wp2_with (go_at_fn 145; refine (copyCheck_bld B b bs _ h).mono ?_)
  rintro e w1 ⟨rfl, h1, hb1⟩
  have hlt : b < w1.heap.size := h1.lt
  obtain ⟨hB, v, hbk, hown, hne⟩ := h1
  have c0 : w1.cell? ⟨b, 0, none⟩ = some (.pointer (some ⟨b, 0, none⟩)) := by rw [Lib.cell_of_heap hbk]; rfl
  have c1 : w1.cell? ⟨b, 1, none⟩ = some v := by rw [Lib.cell_of_heap hbk]; rfl
  go_wp2_with (at_builtin; refine Lib.wpList_append_own_string _ rfl _ _ 163 9 rfl B 5 i0 t37 t9 hi hz0 hz1 hz2 _ _ _ rfl hown s rfl ?c3 ?c4 ?c5 ?_)
  case c3 => unfold maxLen; omega
  case c4 => omega
  case c5 => have := hb1.size; omega
  intro v' w2 hown' hgrow _
  have hb2 : w2.heap[b]? = some (.cells #[.pointer (some ⟨b, 0, none⟩), v] 165 (0, 0)) := by
    rw [hgrow.block b hlt (fun e => hne e.symm)]
    exact hbk
  have d0 : w2.cell? ⟨b, 0, none⟩ = some (.pointer (some ⟨b, 0, none⟩)) := by rw [Lib.cell_of_heap hb2]; rfl
  have d1 : w2.cell? ⟨b, 1, none⟩ = some v := by rw [Lib.cell_of_heap hb2]; rfl
  have f1 : w2.frozen? ⟨b, 1, none⟩ = false := Lib.frozen_of_heap hb2 1
  obtain ⟨ao, n', cap, rfl⟩ : ∃ ao n' cap, v' = .slice ao n' cap := by
    rcases hown'.2 with ⟨hv, _⟩ | ⟨g, cap, cur, hv, _⟩
    · exact ⟨_, _, _, hv⟩
    · exact ⟨_, _, _, hv⟩
  go_wp2
  go_ret2
  refine ⟨rfl, ?_, ?_⟩
  · exact Lib.BuilderAt.put (T := 165) (e := 5) hB hb2 (bs' := bs ++ Lib.strCells s) (by simpa [Lib.strCells_length] using hown') (by decide)
  · exact (hb1.grown hgrow (by have := hb1.size; omega) (fun k hk => (hown.lt k hk).1)).setCell (p := ⟨b, 1, none⟩) hB _
end Go.Proofs.YtkcjkbnbblpomaaGreatDoor
namespace Go.Proofs.YtkcjkbnbblpomaaGreatDoor
open Go.RowKit
set_option maxRecDepth 100000
attribute [local irreducible] Go.Code.wpIn Go.wpListIn Go.Calls Gives Go.Exit.then Go.Exit.inBlock Done ObxE

abbrev bldT : TypeId := 165
abbrev bldE : TypeId := 5
theorem writeB_any {w0 w : World} {b : Nat} {l : List UInt8} {L L' : List HP} (s : ByteArray) (hS : St w0 L w) (hlen : l.length + s.size ≤ 100000000000) (hat : At (blH bldT bldE b l) L L' := by (repeat (first | exact At.here | apply At.there))) :
    Calls Tryz.prog 94 #[.pointer (some ⟨b, 0, none⟩), .string s] w (Ret fun v w' => v = .tuple #[.int .i64 s.size, .nilIface] ∧ St w0 [blH bldT bldE b (l ++ s.data.toList)] w') := by
  obtain ⟨B, h1, h2, h3⟩ := hS.bld hat
  refine Calls.mono (write_bld B b _ s w h3 (by rw [Lib.byteCells_length]; omega) h2) (fun e w' ⟨he, h4, h5⟩ => ⟨_, he, rfl, hS.bldOf h1 h5 ?_⟩)
  rw [Lib.byteCells_append, ← Lib.strCells_eq]
  exact h4
theorem below_nil {w0 w w' : World} {L : List HP} {B : Nat} (hS : St w0 L w) (hB : w0.heap.size ≤ B) (hw : Below B w w') : St w0 [] w' :=
  have hbel : Below w0.heap.size w0 w' := hS.below.trans (hw.mono hB)
  ⟨hbel, Frz.of_below hbel, fun _ => False, fun _ h => h.elim, trivial⟩
theorem stringB_any {w0 w : World} {b : Nat} {l : List UInt8} {L L' : List HP} (hS : St w0 L w) (hat : At (blH bldT bldE b l) L L' := by (repeat (first | exact At.here | apply At.there))) :
    Calls Tryz.prog 95 #[.pointer (some ⟨b, 0, none⟩)] w (Ret fun v w' => v = .string ⟨l.toArray⟩ ∧ St w0 [] w') := by
  obtain ⟨B, h1, h2, h3⟩ := hS.bld hat
  exact Calls.mono (Tryz.Builder_String_any B b l w h3 h2) (fun e w' ⟨he, h5⟩ => ⟨_, he, rfl, below_nil hS h1 h5⟩)
theorem growB_any {w0 w : World} {b n : Nat} {L L' : List HP} (hS : St w0 L w) (hn : n ≤ 281474976710656) (hat : At (pts b [.pointer none, .slice none 0 0] bldT) L L' := by (repeat (first | exact At.here | apply At.there))) :
    Calls Tryz.prog 93 #[.pointer (some ⟨b, 0, none⟩), .int .i64 (n : Int)] w (Ret fun v w' => v = .tuple #[] ∧ St w0 [blH bldT bldE b []] w') := by
  obtain ⟨F, hF, hp⟩ := hS.own
  obtain ⟨F1, F2, h1, h2, h3, ⟨hFb, hall, hb⟩, h5⟩ := hp.pull hat
  have hlt := (Array.getElem?_eq_some_iff.1 hb).1
  have hB := (hF b (h1 b hFb)).1.1
  exact Calls.mono (Tryz.Builder_Grow_fresh b b n w (Nat.le_refl _) hb (by omega) hn) (fun e w' ⟨he, h4, h6⟩ => ⟨_, he, rfl, hS.bldOf hB h6 h4⟩)

def joinT (r : List ByteArray) : List UInt8 := r.flatMap (fun y => 32 :: y.data.toList)
def joinL : List ByteArray → List UInt8
  | [] => []
  | x :: r => x.data.toList ++ joinT r
theorem joinT_snoc (r : List ByteArray) (y : ByteArray) : joinT (r ++ [y]) = joinT r ++ (32 :: y.data.toList) := by simp [joinT]
def sumS (l : List ByteArray) : Nat := l.foldl (fun n s => n + s.size) 0
theorem sumS_snoc (l : List ByteArray) (s : ByteArray) : sumS (l ++ [s]) = sumS l + s.size := by simp [sumS]
theorem sumS_take {l : List ByteArray} {X : Nat} (h : ∀ s ∈ l, s.size ≤ X) : ∀ i, i ≤ l.length → sumS (l.take i) ≤ X * i
  | 0, _ => by simp [sumS]
  | i + 1, hi => by
    have hx : l[i]? = some l[i] := List.getElem?_eq_getElem (by omega)
    rw [take_snoc hx, sumS_snoc]
    have h1 := sumS_take h i (by omega)
    have h2 := h l[i] (List.getElem_mem _)
    rw [Nat.mul_add]; omega
theorem joinT_len {l : List ByteArray} {X : Nat} (h : ∀ s ∈ l, s.size ≤ X) : ∀ i, i ≤ l.length → (joinT (l.take i)).length ≤ (X + 1) * i
  | 0, _ => by simp [joinT]
  | i + 1, hi => by
    have hx : l[i]? = some l[i] := List.getElem?_eq_getElem (by omega)
    rw [take_snoc hx, joinT_snoc, List.length_append, List.length_cons]
    have h1 := joinT_len h i (by omega)
    have h2 := h l[i] (List.getElem_mem _)
    have h3 : l[i].data.toList.length = l[i].size := Array.length_toList
    rw [Nat.mul_add]; omega

set_option maxHeartbeats 4000000 in
theorem join2_any (Z : Nat) (hZ : Z ≤ 1000000) (x0 x1 : ByteArray) (r : List ByteArray) (hl : r.length ≤ 10000) (hx : ∀ s ∈ x0 :: x1 :: r, s.size ≤ Z) (v : Value) (w0 : World) (hv : SlT (x0 :: x1 :: r) v w0) :
    Calls Tryz.prog 45 #[v, .string ⟨#[32]⟩] w0 (Ret fun v w => v = .string ⟨(joinL (x0 :: x1 :: r)).toArray⟩ ∧ St w0 [] w) := by
  generalize hX : x0 :: x1 :: r = X at *
  have hXl : X.length = r.length + 2 := by rw [← hX]; simp
  have hX0 : X[0]? = some x0 := by rw [← hX]; rfl
  have h32 : ByteArray.size ⟨#[32]⟩ = 1 := rfl
  refine enter Tryz.func45 rfl Tryz.ntmps45 rfl (fun a hk => ?_); have hS := St.refl w0
  (repeat' (first | (show wpListIn _ _ _ _ _ (_ :: _) _ _; first | (refine wx1 ?_; clear hk a; intro a hk) | (refine wx2 ?_ ?_ <;> (intro hp; clear hk a; intro a hk)) | (refine wx3 ?_; clear hk hS a; intro w b hS a hk) | (refine wx4 ?_; clear hk hS a; intro w hS a hk) | (refine wx5 ?_; clear hk hS a; intro w v hS a hk) | fail) | refine wx0 ?_ | (refine s_end hk ?_; clear hk a; intro a hk) | fail))
  have hQ : ∃ Q : Int, IntKind.i64.wrap ((9223372036854775807 : Int).tdiv ((X.length : Int) - 1)) = Q ∧ 2 ≤ Q ∧ Q ≤ 9223372036854775807 := by
    have h1 : (9223372036854775807 : Int).tdiv ((X.length : Int) - 1) = 9223372036854775807 / ((X.length : Int) - 1) := Int.tdiv_eq_ediv_of_nonneg (by decide)
    have h2 : (2 : Int) ≤ 9223372036854775807 / ((X.length : Int) - 1) := Int.le_ediv_of_mul_le (by omega) (by omega)
    have h3 : (9223372036854775807 : Int) / ((X.length : Int) - 1) ≤ 9223372036854775807 := Int.ediv_le_self _ (by decide)
    exact ⟨_, rfl, by rw [h1, IntWalk.i64_in _ ⟨by omega, h3⟩]; exact h2, by rw [h1, IntWalk.i64_in _ ⟨by omega, h3⟩]; exact h3⟩
  obtain ⟨Q, hQ0, hQ1, hQ2⟩ := hQ
  refine sg hk (g_quo hk ?_ (hq := by omega)); clear hk a; intro a hk
  rw [hQ0] at hk
  (repeat' (first | (show wpListIn _ _ _ _ _ (_ :: _) _ _; first | (refine wx1 ?_; clear hk a; intro a hk) | (refine wx2 ?_ ?_ <;> (intro hp; clear hk a; intro a hk)) | (refine wx3 ?_; clear hk hS a; intro w b hS a hk) | (refine wx4 ?_; clear hk hS a; intro w hS a hk) | (refine wx5 ?_; clear hk hS a; intro w v hS a hk) | fail) | refine wx0 ?_ | (refine s_end hk ?_; clear hk a; intro a hk) | fail))
  refine sg hk (g_mul hk ?_ (hlo := by rw [h32]; omega) (hhi := by rw [h32]; omega)); clear hk a; intro a hk
  rw [h32] at hk
  (repeat' (first | (show wpListIn _ _ _ _ _ (_ :: _) _ _; first | (refine wx1 ?_; clear hk a; intro a hk) | (refine wx2 ?_ ?_ <;> (intro hp; clear hk a; intro a hk)) | (refine wx3 ?_; clear hk hS a; intro w b hS a hk) | (refine wx4 ?_; clear hk hS a; intro w hS a hk) | (refine wx5 ?_; clear hk hS a; intro w v hS a hk) | fail) | refine wx0 ?_ | (refine s_end hk ?_; clear hk a; intro a hk) | fail))
  have e5 : (0 + ((1 : Nat) : Int) * ((X.length : Int) - 1)) = ((X.length - 1 + sumS (X.take 0) : Nat) : Int) := by rw [List.take_zero]; simp only [sumS, List.foldl_nil]; omega
  rw [e5] at hk
  replace hk := Kn.kp [0, 1, 5, 39, 40, 41] hk
  refine wp_for X.length (fun i _ => [(5, .int .i64 ((X.length - 1 + sumS (X.take i) : Nat) : Int)), (41, .int .i64 (i : Int))]) (fun _ _ => []) (fun _ _ => True) () hk (by repeat (first | exact trivial | refine ⟨rfl, ?_⟩)) hS.sb trivial ?_
  clear hk hS a
  rintro i - a w hi hk hS -
  have hb := sumS_take hx i hi
  have hbm : Z * i ≤ 1000000 * 10002 := Nat.mul_le_mul hZ (by omega)
  by_cases hil : i < X.length
  · obtain ⟨x, hxi⟩ : ∃ x, X[i]? = some x := ⟨_, List.getElem?_eq_getElem hil⟩
    have hxs := hx x (List.mem_of_getElem? hxi)
    have hst : sumS (X.take (i + 1)) = sumS (X.take i) + x.size := by rw [take_snoc hxi, sumS_snoc]
    (repeat' (first | (show wpListIn _ _ _ _ _ (_ :: _) _ _; first | (refine wx1 ?_; clear hk a; intro a hk) | (refine wx2 ?_ ?_ <;> (intro hp; clear hk a; intro a hk)) | (refine wx3 ?_; clear hk hS a; intro w b hS a hk) | (refine wx4 ?_; clear hk hS a; intro w hS a hk) | (refine wx5 ?_; clear hk hS a; intro w v hS a hk) | fail) | refine wx0 ?_ | (refine s_end hk ?_; clear hk a; intro a hk) | fail))
    have e6 : ((X.length - 1 + sumS (X.take i) : Nat) : Int) + (x.size : Int) = ((X.length - 1 + sumS (X.take (i + 1)) : Nat) : Int) := by rw [hst]; omega
    rw [e6] at hk
    exact ⟨hil, (), hk.sd, hS.sb, trivial⟩
  · have hii : i = X.length := by omega
    subst hii
    rw [List.take_length] at hk hb
    (repeat' (first | (show wpListIn _ _ _ _ _ (_ :: _) _ _; first | (refine wx1 ?_; clear hk a; intro a hk) | (refine wx2 ?_ ?_ <;> (intro hp; clear hk a; intro a hk)) | (refine wx3 ?_; clear hk hS a; intro w b hS a hk) | (refine wx4 ?_; clear hk hS a; intro w hS a hk) | (refine wx5 ?_; clear hk hS a; intro w v hS a hk) | fail) | refine wx0 ?_ | (refine s_end hk ?_; clear hk a; intro a hk) | fail))
    refine sg hk (g_callO hk (hf := by kernel_rfl) (hc := growB_any (n := X.length - 1 + sumS X) hS (by omega)) (h := ?_)); clear hk hS a; rintro _ w ⟨rfl, hS⟩ a hk
    (repeat' (first | (show wpListIn _ _ _ _ _ (_ :: _) _ _; first | (refine wx1 ?_; clear hk a; intro a hk) | (refine wx2 ?_ ?_ <;> (intro hp; clear hk a; intro a hk)) | (refine wx3 ?_; clear hk hS a; intro w b hS a hk) | (refine wx4 ?_; clear hk hS a; intro w hS a hk) | (refine wx5 ?_; clear hk hS a; intro w v hS a hk) | fail) | refine wx0 ?_ | (refine s_end hk ?_; clear hk a; intro a hk) | fail))
    refine sg hk (g_callO hk (hf := by kernel_rfl) (hc := writeB_any (l := []) x0 hS (by have := hx x0 (List.mem_of_getElem? hX0); simp only [List.length_nil]; omega)) (h := ?_)); clear hk hS a; rintro _ w ⟨rfl, hS⟩ a hk
    (repeat' (first | (show wpListIn _ _ _ _ _ (_ :: _) _ _; first | (refine wx1 ?_; clear hk a; intro a hk) | (refine wx2 ?_ ?_ <;> (intro hp; clear hk a; intro a hk)) | (refine wx3 ?_; clear hk hS a; intro w b hS a hk) | (refine wx4 ?_; clear hk hS a; intro w hS a hk) | (refine wx5 ?_; clear hk hS a; intro w v hS a hk) | fail) | refine wx0 ?_ | (refine s_end hk ?_; clear hk a; intro a hk) | fail))
    refine sg hk (g_partF (i := 1) hk ?_ (ht := eT rfl) (hs := (by first | exact St.rdT hS (by assumption) | exact OwT.rd (hS.rd (A := OwT _ _ _) (by (repeat (first | exact At.here | apply At.there)))) | assumption)) (hE := zT rfl) (hi := by omega)); clear hk a; intro vp hvp a hk
    obtain ⟨Y, hY⟩ : ∃ Y, X.drop 1 = Y := ⟨_, rfl⟩
    rw [hY] at hvp
    have hYl : Y.length = X.length - 1 := by rw [← hY, List.length_drop]
    have hYm : ∀ s ∈ Y, s.size ≤ Z := fun s hs => hx s (by rw [← hY] at hs; exact List.mem_of_mem_drop hs)
    have hvp0 := hvp w0 hv
    (repeat' (first | (show wpListIn _ _ _ _ _ (_ :: _) _ _; first | (refine wx1 ?_; clear hk a; intro a hk) | (refine wx2 ?_ ?_ <;> (intro hp; clear hk a; intro a hk)) | (refine wx3 ?_; clear hk hS a; intro w b hS a hk) | (refine wx4 ?_; clear hk hS a; intro w hS a hk) | (refine wx5 ?_; clear hk hS a; intro w v hS a hk) | fail) | refine wx0 ?_ | (refine s_end hk ?_; clear hk a; intro a hk) | fail))
    replace hk := Kn.kp [1, 8, 63, 64, 65] hk
    have e7 : ([] ++ x0.data.toList : List UInt8) = x0.data.toList ++ joinT (Y.take 0) := by simp [joinT]
    rw [e7] at hS
    refine wp_for Y.length (fun i _ => [(65, .int .i64 (i : Int))]) (fun i _ => [blH bldT bldE b (x0.data.toList ++ joinT (Y.take i))]) (fun _ _ => True) () hk (by repeat (first | exact trivial | refine ⟨rfl, ?_⟩)) hS.sb trivial ?_
    clear hk hS a
    rintro i - a w hi2 hk hS -
    have hjl := joinT_len hYm i hi2
    have hx0l : x0.data.toList.length = x0.size := Array.length_toList
    have hx0s := hx x0 (List.mem_of_getElem? hX0)
    have hbj : (Z + 1) * i ≤ (1000000 + 1) * 10002 := Nat.mul_le_mul (by omega) (by omega)
    have hvp1 := hS.rdT hvp0
    have hll : (x0.data.toList ++ joinT (Y.take i)).length = x0.size + (joinT (Y.take i)).length := by rw [List.length_append, hx0l]
    by_cases hil2 : i < Y.length
    · obtain ⟨y, hyi⟩ : ∃ y, Y[i]? = some y := ⟨_, List.getElem?_eq_getElem hil2⟩
      have hys := hYm y (List.mem_of_getElem? hyi)
      have hst : x0.data.toList ++ joinT (Y.take i) ++ [32] ++ y.data.toList = x0.data.toList ++ joinT (Y.take (i + 1)) := by rw [take_snoc hyi, joinT_snoc]; simp
      generalize x0.data.toList ++ joinT (Y.take i) = Z at *
      (repeat' (first | (show wpListIn _ _ _ _ _ (_ :: _) _ _; first | (refine wx1 ?_; clear hk a; intro a hk) | (refine wx2 ?_ ?_ <;> (intro hp; clear hk a; intro a hk)) | (refine wx3 ?_; clear hk hS a; intro w b hS a hk) | (refine wx4 ?_; clear hk hS a; intro w hS a hk) | (refine wx5 ?_; clear hk hS a; intro w v hS a hk) | fail) | refine wx0 ?_ | (refine s_end hk ?_; clear hk a; intro a hk) | fail))
      refine sg hk (g_callO hk (hf := by kernel_rfl) (hc := writeB_any (l := Z) ⟨#[32]⟩ hS (by omega)) (h := ?_)); clear hk hS a; rintro _ w ⟨rfl, hS⟩ a hk
      rw [show (ByteArray.mk #[32]).data.toList = [32] from rfl] at hS
      (repeat' (first | (show wpListIn _ _ _ _ _ (_ :: _) _ _; first | (refine wx1 ?_; clear hk a; intro a hk) | (refine wx2 ?_ ?_ <;> (intro hp; clear hk a; intro a hk)) | (refine wx3 ?_; clear hk hS a; intro w b hS a hk) | (refine wx4 ?_; clear hk hS a; intro w hS a hk) | (refine wx5 ?_; clear hk hS a; intro w v hS a hk) | fail) | refine wx0 ?_ | (refine s_end hk ?_; clear hk a; intro a hk) | fail))
      refine sg hk (g_callO hk (hf := by kernel_rfl) (hc := writeB_any (l := Z ++ [32]) y hS (by rw [List.length_append, List.length_singleton]; omega)) (h := ?_)); clear hk hS a; rintro _ w ⟨rfl, hS⟩ a hk
      rw [hst] at hS
      (repeat' (first | (show wpListIn _ _ _ _ _ (_ :: _) _ _; first | (refine wx1 ?_; clear hk a; intro a hk) | (refine wx2 ?_ ?_ <;> (intro hp; clear hk a; intro a hk)) | (refine wx3 ?_; clear hk hS a; intro w b hS a hk) | (refine wx4 ?_; clear hk hS a; intro w hS a hk) | (refine wx5 ?_; clear hk hS a; intro w v hS a hk) | fail) | refine wx0 ?_ | (refine s_end hk ?_; clear hk a; intro a hk) | fail))
      exact ⟨hil2, (), hk.sd, hS.sb, trivial⟩
    · have hii : i = Y.length := by omega
      subst hii
      rw [List.take_length] at hS
      (repeat' (first | (show wpListIn _ _ _ _ _ (_ :: _) _ _; first | (refine wx1 ?_; clear hk a; intro a hk) | (refine wx2 ?_ ?_ <;> (intro hp; clear hk a; intro a hk)) | (refine wx3 ?_; clear hk hS a; intro w b hS a hk) | (refine wx4 ?_; clear hk hS a; intro w hS a hk) | (refine wx5 ?_; clear hk hS a; intro w v hS a hk) | fail) | refine wx0 ?_ | (refine s_end hk ?_; clear hk a; intro a hk) | fail))
      refine sg hk (g_callO hk (hf := by kernel_rfl) (hc := stringB_any (l := x0.data.toList ++ joinT Y) hS) (h := ?_)); clear hk hS a; rintro _ w ⟨rfl, hS⟩ a hk
      (repeat' (first | (show wpListIn _ _ _ _ _ (_ :: _) _ _; first | (refine wx1 ?_; clear hk a; intro a hk) | (refine wx2 ?_ ?_ <;> (intro hp; clear hk a; intro a hk)) | (refine wx3 ?_; clear hk hS a; intro w b hS a hk) | (refine wx4 ?_; clear hk hS a; intro w hS a hk) | (refine wx5 ?_; clear hk hS a; intro w v hS a hk) | fail) | refine wx0 ?_ | (refine s_end hk ?_; clear hk a; intro a hk) | fail))
      refine done1 hk (h := ⟨?_, hS.nil⟩)
      rw [← hX, joinL]
      rw [← hX, List.drop_one, List.tail_cons] at hY
      rw [← hY]
theorem join1_any (x0 : ByteArray) (v : Value) (w0 : World) (hv : SlT [x0] v w0) :
    Calls Tryz.prog 45 #[v, .string ⟨#[32]⟩] w0 (Ret fun v w => v = .string x0 ∧ St w0 [] w) := by
  have hX0 : [x0][0]? = some x0 := rfl
  have hl1 : [x0].length = 1 := rfl
  refine enter Tryz.func45 rfl Tryz.ntmps45 rfl (fun a hk => ?_); have hS := St.refl w0
  (repeat' (first | (show wpListIn _ _ _ _ _ (_ :: _) _ _; first | (refine wx1 ?_; clear hk a; intro a hk) | (refine wx2 ?_ ?_ <;> (intro hp; clear hk a; intro a hk)) | (refine wx3 ?_; clear hk hS a; intro w b hS a hk) | (refine wx4 ?_; clear hk hS a; intro w hS a hk) | (refine wx5 ?_; clear hk hS a; intro w v hS a hk) | fail) | refine wx0 ?_ | (refine s_end hk ?_; clear hk a; intro a hk) | fail))
  exact done1 hk (h := ⟨rfl, hS.nil⟩)
theorem joinL_one (x : ByteArray) : (⟨(joinL [x]).toArray⟩ : ByteArray) = x := by
  cases x with
  | mk d => simp [joinL, joinT]
theorem joinX_any (Z : Nat) (hZ : Z ≤ 1000000) (X : List ByteArray) (hne : X ≠ []) (hl : X.length ≤ 10000) (hx : ∀ s ∈ X, s.size ≤ Z) (v : Value) (w0 : World) (hv : SlT X v w0) :
    Calls Tryz.prog 45 #[v, .string ⟨#[32]⟩] w0 (Ret fun v w => v = .string ⟨(joinL X).toArray⟩ ∧ St w0 [] w) := by
  match X, hne, hl, hx, hv with
  | [x0], _, _, _, hv => rw [joinL_one]; exact join1_any x0 v w0 hv
  | x0 :: x1 :: r, _, hl, hx, hv => exact join2_any Z hZ x0 x1 r (by simp only [List.length_cons] at hl; omega) hx v w0 hv
end Go.Proofs.YtkcjkbnbblpomaaGreatDoor
namespace Go.Proofs.YtkcjkbnbblpomaaGreatDoor
open Go.RowKit

theorem wp_join {df : Option Nat} {n : Nat} {P : Program} {c : Code} {K : Act → World → Prop} {Q : Exit → Act → World → Prop} {a : Act} {w : World} (R' : Act → World → Prop) (h2 : ∀ a w, R' a w → K a w) (h1 : c.wpIn (FR df) n P (Exit.then R' Q) a w) : c.wpIn (FR df) n P (Exit.then K Q) a w :=
  wpIn_mono h1 (fun e a w h => by cases e <;> first | exact h2 _ _ h | exact h)
def lblS (ids : Bool) (id : Int) : ByteArray := if ids then itoS id ++ ⟨#[58]⟩ else ⟨#[]⟩
def dotS (c : ByteArray) : ByteArray := ⟨#[46]⟩ ++ c
def attS (x : ByteArray × ByteArray) : ByteArray := ⟨#[64]⟩ ++ x.1 ++ ⟨#[61]⟩ ++ x.2
def styS (x : ByteArray × Int) : ByteArray := x.1 ++ ⟨#[61]⟩ ++ itoS x.2
def hdL (ids : Bool) (id : Int) (tag : ByteArray) (cl : List ByteArray) (al : List (ByteArray × ByteArray)) (sl : List (ByteArray × Int)) : List ByteArray :=
  (lblS ids id ++ tag) :: (cl.map dotS ++ al.map attS ++ sl.map styS)
mutual
def showT (ids : Bool) : STree → ByteArray
  | .mk id k tag text cl al sl kids => if k = 1 then lblS ids id ++ ⟨#[39]⟩ ++ text ++ ⟨#[39]⟩ else ⟨#[40]⟩ ++ ⟨(joinL (hdL ids id tag cl al sl ++ showL ids kids)).toArray⟩ ++ ⟨#[41]⟩
def showL (ids : Bool) : List STree → List ByteArray
  | [] => []
  | t :: ts => showT ids t :: showL ids ts
end
theorem showL_map (ids : Bool) : ∀ l, showL ids l = l.map (showT ids)
  | [] => rfl
  | t :: ts => by rw [showL, showL_map ids ts]; rfl
mutual
def scnt : STree → Nat
  | .mk _ _ _ _ _ _ _ kids => scntL kids + 1
def scntL : List STree → Nat
  | [] => 0
  | t :: ts => scnt t + scntL ts
end
theorem scntL_mem : ∀ {ts : List STree} {t : STree}, t ∈ ts → scnt t ≤ scntL ts
  | t :: ts, u, h => by
    rcases List.mem_cons.1 h with rfl | h
    · simp only [scntL]; omega
    · have := scntL_mem h; simp only [scntL]; omega
theorem scnt_pos (t : STree) : 1 ≤ scnt t := by cases t; simp only [scnt]; omega
theorem scntL_len : ∀ ts : List STree, ts.length ≤ scntL ts
  | [] => by simp
  | t :: ts => by have := scntL_len ts; have := scnt_pos t; simp only [List.length_cons, scntL]; omega
def i64P (x : Int) : Prop := -9223372036854775808 ≤ x ∧ x ≤ 9223372036854775807
inductive SSm : STree → Prop
  | mk {id k : Int} {tag text : ByteArray} {cl : List ByteArray} {al : List (ByteArray × ByteArray)} {sl : List (ByteArray × Int)} {kids : List STree}
    (h0 : i64P id) (h1 : tag.size ≤ 20) (h2 : text.size ≤ 3000) (h3 : cl.length ≤ 4) (h4 : ∀ c ∈ cl, c.size ≤ 20) (h5 : al.length ≤ 4) (h6 : ∀ x ∈ al, x.1.size ≤ 20 ∧ x.2.size ≤ 40) (h7 : sl.length ≤ 4) (h8 : ∀ x ∈ sl, x.1.size ≤ 20 ∧ i64P x.2) (h9 : ∀ t ∈ kids, SSm t) : SSm (.mk id k tag text cl al sl kids)
theorem itoP_size {n : Int} (h : i64P n) : (itoS n).size ≤ 21 := by
  have := Lib.itoa_length_le n h.1 h.2
  have e : (itoS n).size = (Lib.itoa n).length := by unfold itoS; simp [ByteArray.size]
  omega
theorem lbl_size {ids : Bool} {id : Int} (h : i64P id) : (lblS ids id).size ≤ 22 := by
  unfold lblS
  split
  · have := itoP_size h
    have e : ByteArray.size ⟨#[58]⟩ = 1 := rfl
    rw [ByteArray.size_append]; omega
  · exact Nat.zero_le _
def lenL (l : List ByteArray) : Nat := (l.map ByteArray.size).sum
theorem joinT_size : ∀ l : List ByteArray, (joinT l).length = lenL l + l.length
  | [] => by simp [joinT, lenL]
  | x :: l => by
    have ih := joinT_size l
    have e : x.data.toList.length = x.size := Array.length_toList
    unfold joinT lenL at *
    simp only [List.flatMap_cons, List.length_append, List.length_cons, List.map_cons, List.sum_cons]
    omega
theorem joinL_size (x : ByteArray) (l : List ByteArray) : (joinL (x :: l)).length = x.size + lenL l + l.length := by
  have e : x.data.toList.length = x.size := Array.length_toList
  rw [joinL, List.length_append, joinT_size]; omega
theorem lenL_app (a b : List ByteArray) : lenL (a ++ b) = lenL a + lenL b := by simp [lenL]
theorem lenL_le {l : List ByteArray} {X : Nat} (h : ∀ s ∈ l, s.size ≤ X) : lenL l ≤ X * l.length := by
  induction l with
  | nil => simp [lenL]
  | cons x l ih =>
    have h1 := h x (by simp)
    have h2 := ih fun s hs => h s (by simp [hs])
    unfold lenL at *
    rw [List.map_cons, List.sum_cons, List.length_cons, Nat.mul_add]; omega
theorem hd_sizes {ids : Bool} {id : Int} {tag : ByteArray} {cl : List ByteArray} {al : List (ByteArray × ByteArray)} {sl : List (ByteArray × Int)} (h0 : i64P id) (h1 : tag.size ≤ 20) (h4 : ∀ c ∈ cl, c.size ≤ 20) (h6 : ∀ x ∈ al, x.1.size ≤ 20 ∧ x.2.size ≤ 40) (h8 : ∀ x ∈ sl, x.1.size ≤ 20 ∧ i64P x.2) :
    ∀ s ∈ hdL ids id tag cl al sl, s.size ≤ 62 := by
  intro s hs
  have hl := lbl_size (ids := ids) h0
  have e1 : ByteArray.size ⟨#[46]⟩ = 1 := rfl
  have e2 : ByteArray.size ⟨#[64]⟩ = 1 := rfl
  have e3 : ByteArray.size ⟨#[61]⟩ = 1 := rfl
  unfold hdL at hs
  rcases List.mem_cons.1 hs with rfl | hs
  · rw [ByteArray.size_append]; omega
  · rcases List.mem_append.1 hs with hs | hs
    · rcases List.mem_append.1 hs with hs | hs
      · obtain ⟨c, hc, rfl⟩ := List.mem_map.1 hs
        have := h4 c hc
        rw [dotS, ByteArray.size_append]; omega
      · obtain ⟨x, hx, rfl⟩ := List.mem_map.1 hs
        have := h6 x hx
        rw [attS]; simp only [ByteArray.size_append]; omega
    · obtain ⟨x, hx, rfl⟩ := List.mem_map.1 hs
      have := h8 x hx
      have := itoP_size this.2
      rw [styS]; simp only [ByteArray.size_append]; omega
theorem STree.ind {P : STree → Prop} (h : ∀ (id k : Int) (tag text : ByteArray) (cl : List ByteArray) (al : List (ByteArray × ByteArray)) (sl : List (ByteArray × Int)) (kids : List STree), (∀ t ∈ kids, P t) → P (.mk id k tag text cl al sl kids)) (t : STree) : P t := by
  have : ∀ (n : Nat) (t : STree), SizeOf.sizeOf t < n → P t := by
    intro n
    induction n with
    | zero => intro t h; omega
    | succ n ih =>
      intro t ht
      obtain ⟨id, k, tag, text, cl, al, sl, kids⟩ := t
      exact h _ _ _ _ _ _ _ _ fun u hu => ih u (by have := skid_lt (id := id) (k := k) (tag := tag) (text := text) (cl := cl) (at_ := al) (st := sl) hu; omega)
  exact this _ t (Nat.lt_succ_self _)
theorem show_size (ids : Bool) (t : STree) : SSm t → (showT ids t).size + 1 ≤ 4000 * scnt t := by
  induction t using STree.ind with
  | h id k tag text cl al sl kids ih =>
    intro hs
    cases hs with
    | mk h0 h1 h2 h3 h4 h5 h6 h7 h8 h9 =>
      have hl := lbl_size (ids := ids) h0
      have e1 : ByteArray.size ⟨#[39]⟩ = 1 := rfl
      have e2 : ByteArray.size ⟨#[40]⟩ = 1 := rfl
      have e3 : ByteArray.size ⟨#[41]⟩ = 1 := rfl
      simp only [showT, scnt]
      split
      · simp only [ByteArray.size_append]; omega
      · have hH := hd_sizes (ids := ids) h0 h1 h4 h6 h8
        have hk : ∀ ts : List STree, (∀ t ∈ ts, t ∈ kids) → lenL (showL ids ts) + ts.length ≤ 4000 * scntL ts := by
          intro ts
          induction ts with
          | nil => intro _; simp [showL, lenL, scntL]
          | cons u us ihs =>
            intro hm
            have a1 := ih u (hm u (by simp)) (h9 u (hm u (by simp)))
            have a2 := ihs fun t ht => hm t (by simp [ht])
            have a3 := scnt_pos u
            unfold lenL at *
            simp only [showL, List.map_cons, List.sum_cons, List.length_cons, scntL]
            omega
        have hk0 := hk kids fun _ h => h
        have hsl : (showL ids kids).length = kids.length := by rw [showL_map, List.length_map]
        have hj : (ByteArray.mk (joinL (hdL ids id tag cl al sl ++ showL ids kids)).toArray).size = (joinL (hdL ids id tag cl al sl ++ showL ids kids)).length := by simp [ByteArray.size]
        have h10 : (lblS ids id ++ tag).size ≤ 62 := hH _ (by unfold hdL; simp)
        have h11 := lenL_le (l := cl.map dotS ++ al.map attS ++ sl.map styS) (X := 62) (fun s hs => hH s (by unfold hdL; exact List.mem_cons_of_mem _ hs))
        have h12 : (cl.map dotS ++ al.map attS ++ sl.map styS).length ≤ 12 := by simp only [List.length_append, List.length_map]; omega
        simp only [ByteArray.size_append, hj]
        unfold hdL
        rw [List.cons_append, joinL_size, lenL_app, List.length_append, hsl]
        omega
end Go.Proofs.YtkcjkbnbblpomaaGreatDoor
