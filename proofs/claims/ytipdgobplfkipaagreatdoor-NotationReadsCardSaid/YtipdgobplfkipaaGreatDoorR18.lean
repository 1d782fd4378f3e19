/- A strings.Builder that is written: what its methods do. A strings.Builder's methods, and strings.Join with blanks, as steps of a call. Layer 8, plain: how a view is written: its pieces, and how long they are. Texts are cut. Layer 4's reference, and what the statements of later layers begin with. Layer 7's reference: attributes, by their names. Layer 3: lists of texts, each once. Layer 3's reference: lists of texts, each once. Layer 7: views as the program's own; views of flat nodes. Layer 7: nodes told flat, each with how deep it stands. Layer 7: views of flat nodes. Layer 7: views as they are shown, in plain words. Layer 7: which views may be, in plain words. Layer 8, plain: a view that may be, as it is written: short, and read again. Trees with longer lists. Layer 8, plain: what is read of a short text has short lists. -/
import Derived.Test.YtipdgobplfkipaaGreatDoorR17
import Derived.Shelf.Strings.Builder1
import Derived.Test.YtipdgobplfkipaaGreatDoorR15
import Derived.Lib.ItoaLen
import Derived.Test.YtipdgobplfkipaaGreatDoorR06
import Derived.Test.YtipdgobplfkipaaGreatDoorR10
import Derived.Test.YtipdgobplfkipaaGreatDoorR07
import Derived.Test.YtipdgobplfkipaaGreatDoorR05
set_option linter.all false
namespace Go.Proofs.YtipdgobplfkipaaGreatDoor
open Go.RowKit Go.Shelf

theorem bInfo : (Tryz.prog.info? 114).map (·.size) = some 2 := by kernel_rfl
theorem bLies : liesAt Tryz.prog Tryz.prog.depth 114 (2 / Tryz.prog.cellsOf 114) 0 114 1 = true := by kernel_rfl
set_option maxHeartbeats 1000000 in
set_option maxRecDepth 100000 in
theorem copyUsed (b : Nat) (w : World) (h0 : w.cell? ⟨b, 0, none⟩ = some (.pointer (some ⟨b, 0, none⟩))) :
    Calls Tryz.prog 81 #[.pointer (some ⟨b, 0, none⟩)] w fun e w' => e = .returned (.tuple #[]) ∧ w' = w := by
  obtain ⟨j, hj, _⟩ := Option.map_eq_some_iff.1 bInfo
  have mixed : Tryz.prog.follows .mixedOrders = true := by kernel_rfl
  have t72 := Tryz.underlying114; have a72 := Tryz.isAgg114; have z72 := Tryz.sizeOf114; have v72 := Tryz.zeroValue114; have u72 := run_underlying t72
  have t70 := Tryz.underlying111; have a70 := Tryz.isAgg111; have z70 := Tryz.sizeOf111; have v70 := Tryz.zeroValue111; have u70 := run_underlying t70
  have t4 := Tryz.underlying4; have a4 := Tryz.isAgg4; have z4 := Tryz.sizeOf4; have v4 := Tryz.zeroValue4; have u4 := run_underlying t4
  have t164 := Tryz.underlying148; have a164 := Tryz.isAgg148; have z164 := Tryz.sizeOf148; have v164 := Tryz.zeroValue148; have u164 := run_underlying t164
  go_enter Tryz.func81, Tryz.ntmps81
  go_wp2
  rw [Lib.run_neq_ptr_same w _ t70 hj]
  go_wp2
  go_end0
  exact ⟨rfl, rfl⟩

set_option maxHeartbeats 1000000 in
set_option maxRecDepth 100000 in
theorem copyFresh (b : Nat) (w : World) (h0 : w.cell? ⟨b, 0, none⟩ = some (.pointer none)) (hsh : w.shape? b = some (114, 2)) (hfz : w.frozen? ⟨b, 0, none⟩ = false) :
    Calls Tryz.prog 81 #[.pointer (some ⟨b, 0, none⟩)] w fun e w' => e = .returned (.tuple #[]) ∧ w' = w.setCell ⟨b, 0, none⟩ (.pointer (some ⟨b, 0, none⟩)) := by
  obtain ⟨j, hj, hjs⟩ := Option.map_eq_some_iff.1 bInfo
  have mixed : Tryz.prog.follows .mixedOrders = true := by kernel_rfl
  have t72 := Tryz.underlying114; have a72 := Tryz.isAgg114; have z72 := Tryz.sizeOf114; have v72 := Tryz.zeroValue114; have u72 := run_underlying t72
  have t70 := Tryz.underlying111; have a70 := Tryz.isAgg111; have z70 := Tryz.sizeOf111; have v70 := Tryz.zeroValue111; have u70 := run_underlying t70
  have t4 := Tryz.underlying4; have a4 := Tryz.isAgg4; have z4 := Tryz.sizeOf4; have v4 := Tryz.zeroValue4; have u4 := run_underlying t4
  have t164 := Tryz.underlying148; have a164 := Tryz.isAgg148; have z164 := Tryz.sizeOf148; have v164 := Tryz.zeroValue148; have u164 := run_underlying t164
  go_enter Tryz.func81, Tryz.ntmps81
  go_wp2
  rw [Lib.run_to_unsafe w ⟨b, 0, none⟩ t70 t164 hj (by rw [hjs]; decide) hsh (Nat.zero_lt_succ 1)]
  simp only [Result.andThen]
  rw [Oper.upon_value]
  go_wp2
  rw [run_callFunc_extern Tryz.func109 (by kernel_rfl) (by kernel_rfl) (by kernel_rfl) (e := Extern.AbiNoEscape.same) (by kernel_rfl)]
  rw [Lib.run_noEscape]
  simp only [Result.andThen]
  rw [Oper.upon_value]
  go_wp2
  rw [Lib.run_from_unsafe w ⟨b, 0, none⟩ t164 t70 hj hsh bLies]
  simp only [Result.andThen]
  rw [Oper.upon_value]
  go_wp2
  go_end0
  exact ⟨rfl, rfl⟩
theorem copyCheck_bld (B b : Nat) (bs : List Value) (w : World) (h : Lib.IsBuilder 114 5 B b bs w) :
    Calls Tryz.prog 81 #[.pointer (some ⟨b, 0, none⟩)] w fun e w' => e = .returned (.tuple #[]) ∧ Lib.BuilderAt 114 5 B b (.pointer (some ⟨b, 0, none⟩)) bs w' ∧ Below B w w' := by
  rcases h with h | h
  · refine (copyFresh b w h.cell0 h.shape h.frozen0).mono ?_
    rintro e w' ⟨he, rfl⟩
    exact ⟨he, h.used _, (Below.refl _ _).setCell (p := ⟨b, 0, none⟩) h.1 _⟩
  · refine (copyUsed b w h.cell0).mono ?_
    rintro e w' ⟨he, rfl⟩
    exact ⟨he, h, Below.refl _ _⟩
set_option maxHeartbeats 1000000 in
set_option maxRecDepth 100000 in
theorem write_bld (B b : Nat) (bs : List Value) (s : ByteArray) (w : World) (h : Lib.IsBuilder 114 5 B b bs w) (hlen : bs.length + s.size ≤ 140737488355328) (hBw : B ≤ w.heap.size) :
    Calls Tryz.prog 62 #[.pointer (some ⟨b, 0, none⟩), .string s] w fun e w' => e = .returned (.tuple #[.int .i64 s.size, .nilIface]) ∧ (Lib.BuilderAt 114 5 B b (.pointer (some ⟨b, 0, none⟩)) (bs ++ Lib.strCells s) w' ∧ Below B w w') := by
  obtain ⟨i0, hi, hz0, hz1, hz2⟩ : ∃ i, Tryz.prog.info? 5 = some i ∧ i.zero = some (.int .u8 0) ∧ i.size = 1 ∧ i.bytes = 1 := by
    have h : (Tryz.prog.info? 5).map (fun i => (i.zero, i.size, i.bytes)) = some (some (.int .u8 0), 1, 1) := by kernel_rfl
    obtain ⟨i, hi, he⟩ := Option.map_eq_some_iff.1 h
    simp only [Prod.mk.injEq] at he
    exact ⟨i, hi, he.1, he.2.1, he.2.2⟩
  have mixed : Tryz.prog.follows .mixedOrders = true := by kernel_rfl
  have t72 := Tryz.underlying114; have a72 := Tryz.isAgg114; have z72 := Tryz.sizeOf114; have v72 := Tryz.zeroValue114; have u72 := run_underlying t72
  have t70 := Tryz.underlying111; have a70 := Tryz.isAgg111; have z70 := Tryz.sizeOf111; have v70 := Tryz.zeroValue111; have u70 := run_underlying t70
  have t4 := Tryz.underlying4; have a4 := Tryz.isAgg4; have z4 := Tryz.sizeOf4; have v4 := Tryz.zeroValue4; have u4 := run_underlying t4
  have t37 := Tryz.underlying112; have a37 := Tryz.isAgg112; have z37 := Tryz.sizeOf112; have v37 := Tryz.zeroValue112; have u37 := run_underlying t37
  have t3 := Tryz.underlying3; have a3 := Tryz.isAgg3; have z3 := Tryz.sizeOf3; have v3 := Tryz.zeroValue3; have u3 := run_underlying t3
  have t9 := Tryz.underlying9; have a9 := Tryz.isAgg9; have z9 := Tryz.sizeOf9; have v9 := Tryz.zeroValue9; have u9 := run_underlying t9
  have t5 := Tryz.underlying5; have a5 := Tryz.isAgg5; have z5 := Tryz.sizeOf5; have v5 := Tryz.zeroValue5; have u5 := run_underlying t5
  have e240 : ∀ args w, (callFunc 81 args).run Tryz.prog w = .ok (.enter 81 args) w := enters_of Tryz.func81 (by kernel_rfl) rfl
  go_enter Tryz.func62, Tryz.ntmps62
  go_wp2_with (go_at_fn 81; refine (copyCheck_bld B b bs _ h).mono ?_)
  rintro e w1 ⟨rfl, h1, hb1⟩
  have hlt : b < w1.heap.size := h1.lt
  obtain ⟨hB, v, hbk, hown, hne⟩ := h1
  have c0 : w1.cell? ⟨b, 0, none⟩ = some (.pointer (some ⟨b, 0, none⟩)) := by rw [Lib.cell_of_heap hbk]; rfl
  have c1 : w1.cell? ⟨b, 1, none⟩ = some v := by rw [Lib.cell_of_heap hbk]; rfl
  go_wp2_with (at_builtin; refine Lib.wpList_append_own_string _ rfl _ _ 112 9 rfl B 5 i0 t37 t9 hi hz0 hz1 hz2 _ _ _ rfl hown s rfl ?c3 ?c4 ?c5 ?_)
  case c3 => unfold maxLen; omega
  case c4 => omega
  case c5 => have := hb1.size; omega
  intro v' w2 hown' hgrow _
  have hb2 : w2.heap[b]? = some (.cells #[.pointer (some ⟨b, 0, none⟩), v] 114 (0, 0)) := by
    rw [hgrow.block b hlt (fun e => hne e.symm)]
    exact hbk
  have d0 : w2.cell? ⟨b, 0, none⟩ = some (.pointer (some ⟨b, 0, none⟩)) := by rw [Lib.cell_of_heap hb2]; rfl
  have d1 : w2.cell? ⟨b, 1, none⟩ = some v := by rw [Lib.cell_of_heap hb2]; rfl
  have f1 : w2.frozen? ⟨b, 1, none⟩ = false := Lib.frozen_of_heap hb2 1
  obtain ⟨ao, n', cap, rfl⟩ : ∃ ao n' cap, v' = .slice ao n' cap := by
    rcases hown'.2 with ⟨hv, _⟩ | ⟨g, cap, cur, hv, _⟩
    · exact ⟨_, _, _, hv⟩
    · exact ⟨_, _, _, hv⟩
  go_wp2
  go_ret2
  refine ⟨rfl, ?_, ?_⟩
  · exact Lib.BuilderAt.put (T := 114) (e := 5) hB hb2 (bs' := bs ++ Lib.strCells s) (by simpa [Lib.strCells_length] using hown') (by decide)
  · exact (hb1.grown hgrow (by have := hb1.size; omega) (fun k hk => (hown.lt k hk).1)).setCell (p := ⟨b, 1, none⟩) hB _
end Go.Proofs.YtipdgobplfkipaaGreatDoor
namespace Go.Proofs.YtipdgobplfkipaaGreatDoor
open Go.RowKit
set_option maxRecDepth 100000
attribute [local irreducible] Go.Code.wpIn Go.wpListIn Go.Calls Gives Go.Exit.then Go.Exit.inBlock Done ObxE

abbrev bldT : TypeId := 114
abbrev bldE : TypeId := 5
theorem writeB_any {w0 w : World} {b : Nat} {l : List UInt8} {L L' : List HP} (s : ByteArray) (hS : St w0 L w) (hlen : l.length + s.size ≤ 100000000000) (hat : At (blH bldT bldE b l) L L' := by (repeat (first | exact At.here | apply At.there))) :
    Calls Tryz.prog 62 #[.pointer (some ⟨b, 0, none⟩), .string s] w (Ret fun v w' => v = .tuple #[.int .i64 s.size, .nilIface] ∧ St w0 [blH bldT bldE b (l ++ s.data.toList)] w') := by
  obtain ⟨B, h1, h2, h3⟩ := hS.bld hat
  refine Calls.mono (write_bld B b _ s w h3 (by rw [Lib.byteCells_length]; omega) h2) (fun e w' ⟨he, h4, h5⟩ => ⟨_, he, rfl, hS.bldOf h1 h5 ?_⟩)
  rw [Lib.byteCells_append, ← Lib.strCells_eq]
  exact h4
theorem below_nil {w0 w w' : World} {L : List HP} {B : Nat} (hS : St w0 L w) (hB : w0.heap.size ≤ B) (hw : Below B w w') : St w0 [] w' :=
  have hbel : Below w0.heap.size w0 w' := hS.below.trans (hw.mono hB)
  ⟨hbel, Frz.of_below hbel, fun _ => False, fun _ h => h.elim, trivial⟩
theorem stringB_any {w0 w : World} {b : Nat} {l : List UInt8} {L L' : List HP} (hS : St w0 L w) (hat : At (blH bldT bldE b l) L L' := by (repeat (first | exact At.here | apply At.there))) :
    Calls Tryz.prog 63 #[.pointer (some ⟨b, 0, none⟩)] w (Ret fun v w' => v = .string ⟨l.toArray⟩ ∧ St w0 [] w') := by
  obtain ⟨B, h1, h2, h3⟩ := hS.bld hat
  exact Calls.mono (Tryz.Builder_String_any B b l w h3 h2) (fun e w' ⟨he, h5⟩ => ⟨_, he, rfl, below_nil hS h1 h5⟩)
theorem growB_any {w0 w : World} {b n : Nat} {L L' : List HP} (hS : St w0 L w) (hn : n ≤ 281474976710656) (hat : At (pts b [.pointer none, .slice none 0 0] bldT) L L' := by (repeat (first | exact At.here | apply At.there))) :
    Calls Tryz.prog 61 #[.pointer (some ⟨b, 0, none⟩), .int .i64 (n : Int)] w (Ret fun v w' => v = .tuple #[] ∧ St w0 [blH bldT bldE b []] w') := by
  obtain ⟨F, hF, hp⟩ := hS.own
  obtain ⟨F1, F2, h1, h2, h3, ⟨hFb, hall, hb⟩, h5⟩ := hp.pull hat
  have hlt := (Array.getElem?_eq_some_iff.1 hb).1
  have hB := (hF b (h1 b hFb)).1.1
  exact Calls.mono (Tryz.Builder_Grow_fresh b b n w (Nat.le_refl _) hb (by omega) hn) (fun e w' ⟨he, h4, h6⟩ => ⟨_, he, rfl, hS.bldOf hB h6 h4⟩)

def joinT (r : List ByteArray) : List UInt8 := r.flatMap (fun y => 32 :: y.data.toList)
def joinL : List ByteArray → List UInt8
  | [] => []
  | x :: r => x.data.toList ++ joinT r
theorem joinT_snoc (r : List ByteArray) (y : ByteArray) : joinT (r ++ [y]) = joinT r ++ (32 :: y.data.toList) := by simp [joinT]
def sumS (l : List ByteArray) : Nat := l.foldl (fun n s => n + s.size) 0
theorem sumS_snoc (l : List ByteArray) (s : ByteArray) : sumS (l ++ [s]) = sumS l + s.size := by simp [sumS]
theorem sumS_take {l : List ByteArray} {X : Nat} (h : ∀ s ∈ l, s.size ≤ X) : ∀ i, i ≤ l.length → sumS (l.take i) ≤ X * i
  | 0, _ => by simp [sumS]
  | i + 1, hi => by
    have hx : l[i]? = some l[i] := List.getElem?_eq_getElem (by omega)
    rw [take_snoc hx, sumS_snoc]
    have h1 := sumS_take h i (by omega)
    have h2 := h l[i] (List.getElem_mem _)
    rw [Nat.mul_add]; omega
theorem joinT_len {l : List ByteArray} {X : Nat} (h : ∀ s ∈ l, s.size ≤ X) : ∀ i, i ≤ l.length → (joinT (l.take i)).length ≤ (X + 1) * i
  | 0, _ => by simp [joinT]
  | i + 1, hi => by
    have hx : l[i]? = some l[i] := List.getElem?_eq_getElem (by omega)
    rw [take_snoc hx, joinT_snoc, List.length_append, List.length_cons]
    have h1 := joinT_len h i (by omega)
    have h2 := h l[i] (List.getElem_mem _)
    have h3 : l[i].data.toList.length = l[i].size := Array.length_toList
    rw [Nat.mul_add]; omega

set_option maxHeartbeats 4000000 in
theorem join2_any (Z : Nat) (hZ : Z ≤ 1000000) (x0 x1 : ByteArray) (r : List ByteArray) (hl : r.length ≤ 10000) (hx : ∀ s ∈ x0 :: x1 :: r, s.size ≤ Z) (v : Value) (w0 : World) (hv : SlT (x0 :: x1 :: r) v w0) :
    Calls Tryz.prog 40 #[v, .string ⟨#[32]⟩] w0 (Ret fun v w => v = .string ⟨(joinL (x0 :: x1 :: r)).toArray⟩ ∧ St w0 [] w) := by
  generalize hX : x0 :: x1 :: r = X at *
  have hXl : X.length = r.length + 2 := by rw [← hX]; simp
  have hX0 : X[0]? = some x0 := by rw [← hX]; rfl
  have h32 : ByteArray.size ⟨#[32]⟩ = 1 := rfl
  refine enter Tryz.func40 rfl Tryz.ntmps40 rfl (fun a hk => ?_); have hS := St.refl w0
  (repeat' (first | (show wpListIn _ _ _ _ _ (_ :: _) _ _; first | (refine wx1 ?_; clear hk a; intro a hk) | (refine wx2 ?_ ?_ <;> (intro hp; clear hk a; intro a hk)) | (refine wx3 ?_; clear hk hS a; intro w b hS a hk) | (refine wx4 ?_; clear hk hS a; intro w hS a hk) | (refine wx5 ?_; clear hk hS a; intro w v hS a hk) | fail) | refine wx0 ?_ | (refine s_end hk ?_; clear hk a; intro a hk) | fail))
  have hQ : ∃ Q : Int, IntKind.i64.wrap ((9223372036854775807 : Int).tdiv ((X.length : Int) - 1)) = Q ∧ 2 ≤ Q ∧ Q ≤ 9223372036854775807 := by
    have h1 : (9223372036854775807 : Int).tdiv ((X.length : Int) - 1) = 9223372036854775807 / ((X.length : Int) - 1) := Int.tdiv_eq_ediv_of_nonneg (by decide)
    have h2 : (2 : Int) ≤ 9223372036854775807 / ((X.length : Int) - 1) := Int.le_ediv_of_mul_le (by omega) (by omega)
    have h3 : (9223372036854775807 : Int) / ((X.length : Int) - 1) ≤ 9223372036854775807 := Int.ediv_le_self _ (by decide)
    exact ⟨_, rfl, by rw [h1, IntWalk.i64_in _ ⟨by omega, h3⟩]; exact h2, by rw [h1, IntWalk.i64_in _ ⟨by omega, h3⟩]; exact h3⟩
  obtain ⟨Q, hQ0, hQ1, hQ2⟩ := hQ
  refine sg hk (g_quo hk ?_ (hq := by omega)); clear hk a; intro a hk
  rw [hQ0] at hk
  (repeat' (first | (show wpListIn _ _ _ _ _ (_ :: _) _ _; first | (refine wx1 ?_; clear hk a; intro a hk) | (refine wx2 ?_ ?_ <;> (intro hp; clear hk a; intro a hk)) | (refine wx3 ?_; clear hk hS a; intro w b hS a hk) | (refine wx4 ?_; clear hk hS a; intro w hS a hk) | (refine wx5 ?_; clear hk hS a; intro w v hS a hk) | fail) | refine wx0 ?_ | (refine s_end hk ?_; clear hk a; intro a hk) | fail))
  refine sg hk (g_mul hk ?_ (hlo := by rw [h32]; omega) (hhi := by rw [h32]; omega)); clear hk a; intro a hk
  rw [h32] at hk
  (repeat' (first | (show wpListIn _ _ _ _ _ (_ :: _) _ _; first | (refine wx1 ?_; clear hk a; intro a hk) | (refine wx2 ?_ ?_ <;> (intro hp; clear hk a; intro a hk)) | (refine wx3 ?_; clear hk hS a; intro w b hS a hk) | (refine wx4 ?_; clear hk hS a; intro w hS a hk) | (refine wx5 ?_; clear hk hS a; intro w v hS a hk) | fail) | refine wx0 ?_ | (refine s_end hk ?_; clear hk a; intro a hk) | fail))
  have e5 : (0 + ((1 : Nat) : Int) * ((X.length : Int) - 1)) = ((X.length - 1 + sumS (X.take 0) : Nat) : Int) := by rw [List.take_zero]; simp only [sumS, List.foldl_nil]; omega
  rw [e5] at hk
  replace hk := Kn.kp [0, 1, 5, 39, 40, 41] hk
  refine wp_for X.length (fun i _ => [(5, .int .i64 ((X.length - 1 + sumS (X.take i) : Nat) : Int)), (41, .int .i64 (i : Int))]) (fun _ _ => []) (fun _ _ => True) () hk (by repeat (first | exact trivial | refine ⟨rfl, ?_⟩)) hS.sb trivial ?_
  clear hk hS a
  rintro i - a w hi hk hS -
  have hb := sumS_take hx i hi
  have hbm : Z * i ≤ 1000000 * 10002 := Nat.mul_le_mul hZ (by omega)
  by_cases hil : i < X.length
  · obtain ⟨x, hxi⟩ : ∃ x, X[i]? = some x := ⟨_, List.getElem?_eq_getElem hil⟩
    have hxs := hx x (List.mem_of_getElem? hxi)
    have hst : sumS (X.take (i + 1)) = sumS (X.take i) + x.size := by rw [take_snoc hxi, sumS_snoc]
    (repeat' (first | (show wpListIn _ _ _ _ _ (_ :: _) _ _; first | (refine wx1 ?_; clear hk a; intro a hk) | (refine wx2 ?_ ?_ <;> (intro hp; clear hk a; intro a hk)) | (refine wx3 ?_; clear hk hS a; intro w b hS a hk) | (refine wx4 ?_; clear hk hS a; intro w hS a hk) | (refine wx5 ?_; clear hk hS a; intro w v hS a hk) | fail) | refine wx0 ?_ | (refine s_end hk ?_; clear hk a; intro a hk) | fail))
    have e6 : ((X.length - 1 + sumS (X.take i) : Nat) : Int) + (x.size : Int) = ((X.length - 1 + sumS (X.take (i + 1)) : Nat) : Int) := by rw [hst]; omega
    rw [e6] at hk
    exact ⟨hil, (), hk.sd, hS.sb, trivial⟩
  · have hii : i = X.length := by omega
    subst hii
    rw [List.take_length] at hk hb
    (repeat' (first | (show wpListIn _ _ _ _ _ (_ :: _) _ _; first | (refine wx1 ?_; clear hk a; intro a hk) | (refine wx2 ?_ ?_ <;> (intro hp; clear hk a; intro a hk)) | (refine wx3 ?_; clear hk hS a; intro w b hS a hk) | (refine wx4 ?_; clear hk hS a; intro w hS a hk) | (refine wx5 ?_; clear hk hS a; intro w v hS a hk) | fail) | refine wx0 ?_ | (refine s_end hk ?_; clear hk a; intro a hk) | fail))
    refine sg hk (g_callO hk (hf := by kernel_rfl) (hc := growB_any (n := X.length - 1 + sumS X) hS (by omega)) (h := ?_)); clear hk hS a; rintro _ w ⟨rfl, hS⟩ a hk
    (repeat' (first | (show wpListIn _ _ _ _ _ (_ :: _) _ _; first | (refine wx1 ?_; clear hk a; intro a hk) | (refine wx2 ?_ ?_ <;> (intro hp; clear hk a; intro a hk)) | (refine wx3 ?_; clear hk hS a; intro w b hS a hk) | (refine wx4 ?_; clear hk hS a; intro w hS a hk) | (refine wx5 ?_; clear hk hS a; intro w v hS a hk) | fail) | refine wx0 ?_ | (refine s_end hk ?_; clear hk a; intro a hk) | fail))
    refine sg hk (g_callO hk (hf := by kernel_rfl) (hc := writeB_any (l := []) x0 hS (by have := hx x0 (List.mem_of_getElem? hX0); simp only [List.length_nil]; omega)) (h := ?_)); clear hk hS a; rintro _ w ⟨rfl, hS⟩ a hk
    (repeat' (first | (show wpListIn _ _ _ _ _ (_ :: _) _ _; first | (refine wx1 ?_; clear hk a; intro a hk) | (refine wx2 ?_ ?_ <;> (intro hp; clear hk a; intro a hk)) | (refine wx3 ?_; clear hk hS a; intro w b hS a hk) | (refine wx4 ?_; clear hk hS a; intro w hS a hk) | (refine wx5 ?_; clear hk hS a; intro w v hS a hk) | fail) | refine wx0 ?_ | (refine s_end hk ?_; clear hk a; intro a hk) | fail))
    refine sg hk (g_partF (i := 1) hk ?_ (ht := eT rfl) (hs := (by first | exact St.rdT hS (by assumption) | exact OwT.rd (hS.rd (A := OwT _ _ _) (by (repeat (first | exact At.here | apply At.there)))) | assumption)) (hE := zT rfl) (hi := by omega)); clear hk a; intro vp hvp a hk
    obtain ⟨Y, hY⟩ : ∃ Y, X.drop 1 = Y := ⟨_, rfl⟩
    rw [hY] at hvp
    have hYl : Y.length = X.length - 1 := by rw [← hY, List.length_drop]
    have hYm : ∀ s ∈ Y, s.size ≤ Z := fun s hs => hx s (by rw [← hY] at hs; exact List.mem_of_mem_drop hs)
    have hvp0 := hvp w0 hv
    (repeat' (first | (show wpListIn _ _ _ _ _ (_ :: _) _ _; first | (refine wx1 ?_; clear hk a; intro a hk) | (refine wx2 ?_ ?_ <;> (intro hp; clear hk a; intro a hk)) | (refine wx3 ?_; clear hk hS a; intro w b hS a hk) | (refine wx4 ?_; clear hk hS a; intro w hS a hk) | (refine wx5 ?_; clear hk hS a; intro w v hS a hk) | fail) | refine wx0 ?_ | (refine s_end hk ?_; clear hk a; intro a hk) | fail))
    replace hk := Kn.kp [1, 8, 63, 64, 65] hk
    have e7 : ([] ++ x0.data.toList : List UInt8) = x0.data.toList ++ joinT (Y.take 0) := by simp [joinT]
    rw [e7] at hS
    refine wp_for Y.length (fun i _ => [(65, .int .i64 (i : Int))]) (fun i _ => [blH bldT bldE b (x0.data.toList ++ joinT (Y.take i))]) (fun _ _ => True) () hk (by repeat (first | exact trivial | refine ⟨rfl, ?_⟩)) hS.sb trivial ?_
    clear hk hS a
    rintro i - a w hi2 hk hS -
    have hjl := joinT_len hYm i hi2
    have hx0l : x0.data.toList.length = x0.size := Array.length_toList
    have hx0s := hx x0 (List.mem_of_getElem? hX0)
    have hbj : (Z + 1) * i ≤ (1000000 + 1) * 10002 := Nat.mul_le_mul (by omega) (by omega)
    have hvp1 := hS.rdT hvp0
    have hll : (x0.data.toList ++ joinT (Y.take i)).length = x0.size + (joinT (Y.take i)).length := by rw [List.length_append, hx0l]
    by_cases hil2 : i < Y.length
    · obtain ⟨y, hyi⟩ : ∃ y, Y[i]? = some y := ⟨_, List.getElem?_eq_getElem hil2⟩
      have hys := hYm y (List.mem_of_getElem? hyi)
      have hst : x0.data.toList ++ joinT (Y.take i) ++ [32] ++ y.data.toList = x0.data.toList ++ joinT (Y.take (i + 1)) := by rw [take_snoc hyi, joinT_snoc]; simp
      generalize x0.data.toList ++ joinT (Y.take i) = Z at *
      (repeat' (first | (show wpListIn _ _ _ _ _ (_ :: _) _ _; first | (refine wx1 ?_; clear hk a; intro a hk) | (refine wx2 ?_ ?_ <;> (intro hp; clear hk a; intro a hk)) | (refine wx3 ?_; clear hk hS a; intro w b hS a hk) | (refine wx4 ?_; clear hk hS a; intro w hS a hk) | (refine wx5 ?_; clear hk hS a; intro w v hS a hk) | fail) | refine wx0 ?_ | (refine s_end hk ?_; clear hk a; intro a hk) | fail))
      refine sg hk (g_callO hk (hf := by kernel_rfl) (hc := writeB_any (l := Z) ⟨#[32]⟩ hS (by omega)) (h := ?_)); clear hk hS a; rintro _ w ⟨rfl, hS⟩ a hk
      rw [show (ByteArray.mk #[32]).data.toList = [32] from rfl] at hS
      (repeat' (first | (show wpListIn _ _ _ _ _ (_ :: _) _ _; first | (refine wx1 ?_; clear hk a; intro a hk) | (refine wx2 ?_ ?_ <;> (intro hp; clear hk a; intro a hk)) | (refine wx3 ?_; clear hk hS a; intro w b hS a hk) | (refine wx4 ?_; clear hk hS a; intro w hS a hk) | (refine wx5 ?_; clear hk hS a; intro w v hS a hk) | fail) | refine wx0 ?_ | (refine s_end hk ?_; clear hk a; intro a hk) | fail))
      refine sg hk (g_callO hk (hf := by kernel_rfl) (hc := writeB_any (l := Z ++ [32]) y hS (by rw [List.length_append, List.length_singleton]; omega)) (h := ?_)); clear hk hS a; rintro _ w ⟨rfl, hS⟩ a hk
      rw [hst] at hS
      (repeat' (first | (show wpListIn _ _ _ _ _ (_ :: _) _ _; first | (refine wx1 ?_; clear hk a; intro a hk) | (refine wx2 ?_ ?_ <;> (intro hp; clear hk a; intro a hk)) | (refine wx3 ?_; clear hk hS a; intro w b hS a hk) | (refine wx4 ?_; clear hk hS a; intro w hS a hk) | (refine wx5 ?_; clear hk hS a; intro w v hS a hk) | fail) | refine wx0 ?_ | (refine s_end hk ?_; clear hk a; intro a hk) | fail))
      exact ⟨hil2, (), hk.sd, hS.sb, trivial⟩
    · have hii : i = Y.length := by omega
      subst hii
      rw [List.take_length] at hS
      (repeat' (first | (show wpListIn _ _ _ _ _ (_ :: _) _ _; first | (refine wx1 ?_; clear hk a; intro a hk) | (refine wx2 ?_ ?_ <;> (intro hp; clear hk a; intro a hk)) | (refine wx3 ?_; clear hk hS a; intro w b hS a hk) | (refine wx4 ?_; clear hk hS a; intro w hS a hk) | (refine wx5 ?_; clear hk hS a; intro w v hS a hk) | fail) | refine wx0 ?_ | (refine s_end hk ?_; clear hk a; intro a hk) | fail))
      refine sg hk (g_callO hk (hf := by kernel_rfl) (hc := stringB_any (l := x0.data.toList ++ joinT Y) hS) (h := ?_)); clear hk hS a; rintro _ w ⟨rfl, hS⟩ a hk
      (repeat' (first | (show wpListIn _ _ _ _ _ (_ :: _) _ _; first | (refine wx1 ?_; clear hk a; intro a hk) | (refine wx2 ?_ ?_ <;> (intro hp; clear hk a; intro a hk)) | (refine wx3 ?_; clear hk hS a; intro w b hS a hk) | (refine wx4 ?_; clear hk hS a; intro w hS a hk) | (refine wx5 ?_; clear hk hS a; intro w v hS a hk) | fail) | refine wx0 ?_ | (refine s_end hk ?_; clear hk a; intro a hk) | fail))
      refine done1 hk (h := ⟨?_, hS.nil⟩)
      rw [← hX, joinL]
      rw [← hX, List.drop_one, List.tail_cons] at hY
      rw [← hY]
theorem join1_any (x0 : ByteArray) (v : Value) (w0 : World) (hv : SlT [x0] v w0) :
    Calls Tryz.prog 40 #[v, .string ⟨#[32]⟩] w0 (Ret fun v w => v = .string x0 ∧ St w0 [] w) := by
  have hX0 : [x0][0]? = some x0 := rfl
  have hl1 : [x0].length = 1 := rfl
  refine enter Tryz.func40 rfl Tryz.ntmps40 rfl (fun a hk => ?_); have hS := St.refl w0
  (repeat' (first | (show wpListIn _ _ _ _ _ (_ :: _) _ _; first | (refine wx1 ?_; clear hk a; intro a hk) | (refine wx2 ?_ ?_ <;> (intro hp; clear hk a; intro a hk)) | (refine wx3 ?_; clear hk hS a; intro w b hS a hk) | (refine wx4 ?_; clear hk hS a; intro w hS a hk) | (refine wx5 ?_; clear hk hS a; intro w v hS a hk) | fail) | refine wx0 ?_ | (refine s_end hk ?_; clear hk a; intro a hk) | fail))
  exact done1 hk (h := ⟨rfl, hS.nil⟩)
theorem joinL_one (x : ByteArray) : (⟨(joinL [x]).toArray⟩ : ByteArray) = x := by
  cases x with
  | mk d => simp [joinL, joinT]
theorem joinX_any (Z : Nat) (hZ : Z ≤ 1000000) (X : List ByteArray) (hne : X ≠ []) (hl : X.length ≤ 10000) (hx : ∀ s ∈ X, s.size ≤ Z) (v : Value) (w0 : World) (hv : SlT X v w0) :
    Calls Tryz.prog 40 #[v, .string ⟨#[32]⟩] w0 (Ret fun v w => v = .string ⟨(joinL X).toArray⟩ ∧ St w0 [] w) := by
  match X, hne, hl, hx, hv with
  | [x0], _, _, _, hv => rw [joinL_one]; exact join1_any x0 v w0 hv
  | x0 :: x1 :: r, _, hl, hx, hv => exact join2_any Z hZ x0 x1 r (by simp only [List.length_cons] at hl; omega) hx v w0 hv
end Go.Proofs.YtipdgobplfkipaaGreatDoor
namespace Go.Proofs.YtipdgobplfkipaaGreatDoor
open Go.RowKit

theorem fold_join (x : ByteArray) : ∀ l : List ByteArray, l.foldl addW x = ⟨(joinL (x :: l)).toArray⟩ := by
  intro l
  induction l generalizing x with
  | nil => simp [joinL, joinT]
  | cons y l ih =>
    rw [List.foldl_cons, ih]
    congr 2
    simp [joinL, joinT, addW, ByteArray.data_append]
theorem piece_le {x : ByteArray} : ∀ {l : List ByteArray} {y : ByteArray}, y ∈ x :: l → y.size ≤ (l.foldl addW x).size := by
  intro l
  induction l generalizing x with
  | nil => intro y hy; simp at hy; subst hy; exact Nat.le_refl _
  | cons z l ih =>
    intro y hy
    rw [List.foldl_cons]
    have h0 := ih (x := addW x z) (y := addW x z) (by simp)
    have e : (addW x z).size = x.size + 1 + z.size := by
      unfold addW; rw [ByteArray.size_append, ByteArray.size_append]; rfl
    simp only [List.mem_cons] at hy
    rcases hy with rfl | rfl | hy
    · omega
    · omega
    · exact ih (by simp [hy])
def i64R (x : Int) : Prop := -9223372036854775808 ≤ x ∧ x ≤ 9223372036854775807
theorem itoR_size {n : Int} (h : i64R n) : (itoS n).size ≤ 21 := by
  have := Lib.itoa_length_le n h.1 h.2
  have e : (itoS n).size = (Lib.itoa n).length := by unfold itoS; simp [ByteArray.size]
  omega
inductive PO : Tree → Prop
  | mk {k : Int} {tag key text : ByteArray} {cl : List ByteArray} {al : List (ByteArray × ByteArray)} {sl : List (ByteArray × Int)} {o : Opt} {kids : List Tree}
    (h1 : cl.length ≤ 1000) (h2 : al.length ≤ 1000) (h3 : sl.length ≤ 1000) (h4 : kids.length ≤ 1000) (h5 : ∀ x ∈ sl, i64R x.2) (h6 : i64R o.1 ∧ i64R o.2.1 ∧ i64R o.2.2.1) (h7 : ∀ t ∈ kids, PO t) : PO (.mk k tag key text cl al sl o kids)
theorem snap_mem {κ α : Type} [Lin κ] (key : α → κ) {l : List α} {x : α} (h : x ∈ snapF key l) : x ∈ l := last_mem key ((snap_last key).1 h)
theorem snapTs_map : ∀ l : List Tree, snapTs l = l.map snapT
  | [] => rfl
  | t :: l => by rw [snapTs, snapTs_map l]; rfl
abbrev clsW (c : ByteArray) : ByteArray := ⟨#[46]⟩ ++ c
abbrev attW (x : ByteArray × ByteArray) : ByteArray := ⟨#[64]⟩ ++ x.1 ++ ⟨#[61]⟩ ++ x.2
abbrev styW (x : ByteArray × Int) : ByteArray := x.1 ++ ⟨#[61]⟩ ++ itoS x.2
end Go.Proofs.YtipdgobplfkipaaGreatDoor
namespace Go.Proofs.YtipdgobplfkipaaGreatDoor
open Go.RowKit
set_option maxRecDepth 100000
attribute [local irreducible] Go.Code.wpIn Go.wpListIn Go.Calls Gives Go.Exit.then Go.Exit.inBlock Done ObxE

def cutF (s : ByteArray) (n : Nat) : ByteArray := if n < s.size then s.extract 0 n else s

theorem cut_any (s : ByteArray) (n : Nat) (w0 : World) : Calls Tryz.prog 8 #[.string s, .int .i64 (n : Int)] w0 (Ret fun v w => v = .string (cutF s n) ∧ St w0 [] w) := by
  refine enter Tryz.func8 rfl Tryz.ntmps8 rfl (fun a hk => ?_); have hS := St.refl w0
  by_cases hn : n < s.size
  · have hn' : (n : Int) < (s.size : Int) := by omega
    (repeat' (first | (show wpListIn _ _ _ _ _ (_ :: _) _ _; first | (refine wx1 ?_; clear hk a; intro a hk) | (refine wx2 ?_ ?_ <;> (intro hp; clear hk a; intro a hk)) | (refine wx3 ?_; clear hk hS a; intro w b hS a hk) | (refine wx4 ?_; clear hk hS a; intro w hS a hk) | (refine wx5 ?_; clear hk hS a; intro w v hS a hk) | fail) | refine wx0 ?_ | (refine s_end hk ?_; clear hk a; intro a hk) | fail))
    exact done1 hk (h := ⟨by rw [cutF, if_pos hn]; rfl, hS.nil⟩)
  · have hn' : ¬ (n : Int) < (s.size : Int) := by omega
    (repeat' (first | (show wpListIn _ _ _ _ _ (_ :: _) _ _; first | (refine wx1 ?_; clear hk a; intro a hk) | (refine wx2 ?_ ?_ <;> (intro hp; clear hk a; intro a hk)) | (refine wx3 ?_; clear hk hS a; intro w b hS a hk) | (refine wx4 ?_; clear hk hS a; intro w hS a hk) | (refine wx5 ?_; clear hk hS a; intro w v hS a hk) | fail) | refine wx0 ?_ | (refine s_end hk ?_; clear hk a; intro a hk) | fail))
    exact done1 hk (h := ⟨by rw [cutF, if_neg hn], hS.nil⟩)
end Go.Proofs.YtipdgobplfkipaaGreatDoor
namespace Go.Proofs.YtipdgobplfkipaaGreatDoor
open Go.RowKit
set_option maxRecDepth 100000
attribute [local irreducible] Go.Code.wpIn Go.wpListIn Go.Calls Gives Go.Exit.then Go.Exit.inBlock Done ObxE

theorem getLast_take {β : Type} {S : List β} {k : Nat} (h : k + 1 ≤ S.length) : (S.take (k + 1)).getLast? = some (S[k]'(by omega)) := by
  rw [List.getLast?_eq_getElem?, List.length_take, Nat.min_eq_left h, List.getElem?_take, if_pos (by omega), List.getElem?_eq_getElem (by omega)]
  simp

set_option maxHeartbeats 4000000 in
theorem refOf_any (l : List PrI) (v : Value) (w0 : World) (hv : SlT l v w0) (hl : l.length ≤ 1000) :
    Calls Tryz.prog 38 #[v] w0 (Ret fun v w => St w0 [OwT 75 (snapF nmI l) v] w) := by
  have hsl := snap_len nmI l
  have hmn := fun k hk => minE_next nmI l k hk
  generalize snapF nmI l = S at *
  refine enter Tryz.func38 rfl Tryz.ntmps38 rfl (fun a hk => ?_); have hS := St.refl w0
  (repeat' (first | (show wpListIn _ _ _ _ _ (_ :: _) _ _; first | (refine wx1 ?_; clear hk a; intro a hk) | (refine wx2 ?_ ?_ <;> (intro hp; clear hk a; intro a hk)) | (refine wx3 ?_; clear hk hS a; intro w b hS a hk) | (refine wx4 ?_; clear hk hS a; intro w hS a hk) | (refine wx5 ?_; clear hk hS a; intro w v hS a hk) | fail) | refine wx0 ?_ | (refine s_end hk ?_; clear hk a; intro a hk) | fail))
  refine sg hk (g_bs0 PrI hS ?_ (hT := eT rfl) (hE := zT rfl)); clear hk hS a; intro w v2 hS a hk
  (repeat' (first | (show wpListIn _ _ _ _ _ (_ :: _) _ _; first | (refine wx1 ?_; clear hk a; intro a hk) | (refine wx2 ?_ ?_ <;> (intro hp; clear hk a; intro a hk)) | (refine wx3 ?_; clear hk hS a; intro w b hS a hk) | (refine wx4 ?_; clear hk hS a; intro w hS a hk) | (refine wx5 ?_; clear hk hS a; intro w v hS a hk) | fail) | refine wx0 ?_ | (refine s_end hk ?_; clear hk a; intro a hk) | fail))
  replace hk := Kn.kp [0, 3] hk
  refine wp_for S.length (fun _ v => [(3, v)]) (fun k v => [OwT 75 (S.take k) v]) (fun _ _ => True) v2 hk (by repeat (first | exact trivial | refine ⟨rfl, ?_⟩)) hS trivial ?_
  clear hk hS a
  rintro k vo a w hk1 hk hS -
  have hkl : (S.take k).length = k := by rw [List.length_take]; omega
  have hm1 := hmn k hk1
  (repeat' (first | (show wpListIn _ _ _ _ _ (_ :: _) _ _; first | (refine wx1 ?_; clear hk a; intro a hk) | (refine wx2 ?_ ?_ <;> (intro hp; clear hk a; intro a hk)) | (refine wx3 ?_; clear hk hS a; intro w b hS a hk) | (refine wx4 ?_; clear hk hS a; intro w hS a hk) | (refine wx5 ?_; clear hk hS a; intro w v hS a hk) | fail) | refine wx0 ?_ | (refine s_end hk ?_; clear hk a; intro a hk) | fail))
  replace hk := Kn.kp [0, 3, 4, 5, 11, 12, 13] hk
  refine wp_for l.length (fun i _ => [(4, .bool (minE nmI (l.take i) ((S.take k).getLast?.map nmI)).isSome), (13, .int .i64 (i : Int))]) (fun i _ => [pts b (Enc.f ((minE nmI (l.take i) ((S.take k).getLast?.map nmI)).getD (⟨#[]⟩, 0))) 75, OwT 75 (S.take k) vo]) (fun _ _ => True) () hk (by repeat (first | exact trivial | refine ⟨rfl, ?_⟩)) hS.sb trivial ?_
  clear hk hS a
  rintro i - a w hi hk hS -
  by_cases hil : i < l.length
  · obtain ⟨⟨id, X⟩, hx⟩ : ∃ x, l[i]? = some x := ⟨_, List.getElem?_eq_getElem hil⟩
    have hm' : minE nmI (l.take (i + 1)) ((S.take k).getLast?.map nmI) = minStepE nmI ((S.take k).getLast?.map nmI) (minE nmI (l.take i) ((S.take k).getLast?.map nmI)) (id, X) := by rw [take_snoc hx, minE_snoc]
    have hA : (S.take k).getLast?.map nmI = none ∧ k = 0 ∨ ∃ h : k - 1 < S.length, 0 < k ∧ (S.take k).getLast?.map nmI = some S[k - 1].1 := by
      by_cases hk0 : k = 0
      · subst hk0; exact .inl ⟨rfl, rfl⟩
      · refine .inr ⟨by omega, by omega, ?_⟩
        obtain ⟨k', rfl⟩ : ∃ k', k = k' + 1 := ⟨k - 1, by omega⟩
        rw [getLast_take hk1]
        rfl
    generalize minE nmI (l.take (i + 1)) ((S.take k).getLast?.map nmI) = m' at hm' ⊢
    generalize minE nmI (l.take i) ((S.take k).getLast?.map nmI) = m at hm' hk hS
    generalize (S.take k).getLast?.map nmI = A at hm' hA
    rcases hA with ⟨rfl, hk0⟩ | ⟨hkS, hkp, rfl⟩
    · rcases m with _ | ⟨qn, qx⟩
      · have e : m' = some (id, X) := by rw [hm']; rfl
        subst e
        simp only [Option.isSome_none, Option.getD_none] at hk hS
        (repeat' (first | (show wpListIn _ _ _ _ _ (_ :: _) _ _; first | (refine wx1 ?_; clear hk a; intro a hk) | (refine wx2 ?_ ?_ <;> (intro hp; clear hk a; intro a hk)) | (refine wx3 ?_; clear hk hS a; intro w b hS a hk) | (refine wx4 ?_; clear hk hS a; intro w hS a hk) | (refine wx5 ?_; clear hk hS a; intro w v hS a hk) | fail) | refine wx0 ?_ | (refine s_end hk ?_; clear hk a; intro a hk) | fail))
        refine wp_drawn 13 mixed (by kernel_rfl) hk hS ?_; clear hk hS a
        (repeat' (first | (show ObxE _ _ _ _ _ _ _ _ _ (_ :: _) _ _ _; first | refine ox1 ?_ | (refine ox2 ?_ ?_ <;> intro hp) | fail) | fail))
        refine obe_nil ⟨rfl, ?_⟩; intro us a w hk hS
        (repeat' (first | (show wpListIn _ _ _ _ _ (_ :: _) _ _; first | (refine wx1 ?_; clear hk a; intro a hk) | (refine wx2 ?_ ?_ <;> (intro hp; clear hk a; intro a hk)) | (refine wx3 ?_; clear hk hS a; intro w b hS a hk) | (refine wx4 ?_; clear hk hS a; intro w hS a hk) | (refine wx5 ?_; clear hk hS a; intro w v hS a hk) | fail) | refine wx0 ?_ | (refine s_end hk ?_; clear hk a; intro a hk) | fail))
        exact ⟨hil, (), hk.sd, hS.sb, trivial⟩
      · simp only [Option.isSome_some, Option.getD_some] at hk hS
        (repeat' (first | (show wpListIn _ _ _ _ _ (_ :: _) _ _; first | (refine wx1 ?_; clear hk a; intro a hk) | (refine wx2 ?_ ?_ <;> (intro hp; clear hk a; intro a hk)) | (refine wx3 ?_; clear hk hS a; intro w b hS a hk) | (refine wx4 ?_; clear hk hS a; intro w hS a hk) | (refine wx5 ?_; clear hk hS a; intro w v hS a hk) | fail) | refine wx0 ?_ | (refine s_end hk ?_; clear hk a; intro a hk) | fail))
        refine wp_drawn 13 mixed (by kernel_rfl) hk hS ?_; clear hk hS a
        (repeat' (first | (show ObxE _ _ _ _ _ _ _ _ _ (_ :: _) _ _ _; first | refine ox1 ?_ | (refine ox2 ?_ ?_ <;> intro hp) | fail) | fail))
        refine obe_nil ⟨rfl, ?_⟩; intro us a w hk hS
        (repeat' (first | (show wpListIn _ _ _ _ _ (_ :: _) _ _; first | (refine wx1 ?_; clear hk a; intro a hk) | (refine wx2 ?_ ?_ <;> (intro hp; clear hk a; intro a hk)) | (refine wx3 ?_; clear hk hS a; intro w b hS a hk) | (refine wx4 ?_; clear hk hS a; intro w hS a hk) | (refine wx5 ?_; clear hk hS a; intro w v hS a hk) | fail) | refine wx0 ?_ | (refine s_end hk ?_; clear hk a; intro a hk) | fail))
        · have h1 : (!Lin.lt qn id) = true := by assumption
          have e : m' = some (id, X) := by rw [hm']; simp at h1; simp [minStepE, aheadB, h1]
          subst e
          exact ⟨hil, (), hk.sd, hS.sb, trivial⟩
        · have h1 : (!Lin.lt qn id) = false := by assumption
          have e : m' = some (qn, qx) := by rw [hm']; simp at h1; simp [minStepE, aheadB, h1]
          subst e
          exact ⟨hil, (), hk.sd, hS.sb, trivial⟩
    · have hga : ∀ h, ((S.take k)[(((S.take k).length : Int) - 1).toNat]'h).1 = S[k - 1].1 := by
        intro h
        rw [List.getElem_take]
        congr 2
        omega
      rcases m with _ | ⟨qn, qx⟩
      · simp only [Option.isSome_none, Option.getD_none] at hk hS
        (repeat' (first | (show wpListIn _ _ _ _ _ (_ :: _) _ _; first | (refine wx1 ?_; clear hk a; intro a hk) | (refine wx2 ?_ ?_ <;> (intro hp; clear hk a; intro a hk)) | (refine wx3 ?_; clear hk hS a; intro w b hS a hk) | (refine wx4 ?_; clear hk hS a; intro w hS a hk) | (refine wx5 ?_; clear hk hS a; intro w v hS a hk) | fail) | refine wx0 ?_ | (refine s_end hk ?_; clear hk a; intro a hk) | fail))
        refine wp_drawn 13 mixed (by kernel_rfl) hk hS ?_; clear hk hS a
        (repeat' (first | (show ObxE _ _ _ _ _ _ _ _ _ (_ :: _) _ _ _; first | refine ox1 ?_ | (refine ox2 ?_ ?_ <;> intro hp) | fail) | fail))
        refine obe_nil ⟨rfl, ?_⟩; intro us a w hk hS
        (repeat' (first | (show wpListIn _ _ _ _ _ (_ :: _) _ _; first | (refine wx1 ?_; clear hk a; intro a hk) | (refine wx2 ?_ ?_ <;> (intro hp; clear hk a; intro a hk)) | (refine wx3 ?_; clear hk hS a; intro w b hS a hk) | (refine wx4 ?_; clear hk hS a; intro w hS a hk) | (refine wx5 ?_; clear hk hS a; intro w v hS a hk) | fail) | refine wx0 ?_ | (refine s_end hk ?_; clear hk a; intro a hk) | fail))
        · have h1 : Lin.lt S[k - 1].1 id = true := by rw [← hga (by omega)]; assumption
          have e : m' = some (id, X) := by rw [hm']; simp [minStepE, aheadB, h1]
          subst e
          exact ⟨hil, (), hk.sd, hS.sb, trivial⟩
        · have h1 : Lin.lt S[k - 1].1 id = false := by rw [← hga (by omega)]; assumption
          have e : m' = none := by rw [hm']; simp [minStepE, aheadB, h1]
          subst e
          exact ⟨hil, (), hk.sd, hS.sb, trivial⟩
      · simp only [Option.isSome_some, Option.getD_some] at hk hS
        (repeat' (first | (show wpListIn _ _ _ _ _ (_ :: _) _ _; first | (refine wx1 ?_; clear hk a; intro a hk) | (refine wx2 ?_ ?_ <;> (intro hp; clear hk a; intro a hk)) | (refine wx3 ?_; clear hk hS a; intro w b hS a hk) | (refine wx4 ?_; clear hk hS a; intro w hS a hk) | (refine wx5 ?_; clear hk hS a; intro w v hS a hk) | fail) | refine wx0 ?_ | (refine s_end hk ?_; clear hk a; intro a hk) | fail))
        refine wp_drawn 13 mixed (by kernel_rfl) hk hS ?_; clear hk hS a
        (repeat' (first | (show ObxE _ _ _ _ _ _ _ _ _ (_ :: _) _ _ _; first | refine ox1 ?_ | (refine ox2 ?_ ?_ <;> intro hp) | fail) | fail))
        refine obe_nil ⟨rfl, ?_⟩; intro us a w hk hS
        (repeat' (first | (show wpListIn _ _ _ _ _ (_ :: _) _ _; first | (refine wx1 ?_; clear hk a; intro a hk) | (refine wx2 ?_ ?_ <;> (intro hp; clear hk a; intro a hk)) | (refine wx3 ?_; clear hk hS a; intro w b hS a hk) | (refine wx4 ?_; clear hk hS a; intro w hS a hk) | (refine wx5 ?_; clear hk hS a; intro w v hS a hk) | fail) | refine wx0 ?_ | (refine s_end hk ?_; clear hk a; intro a hk) | fail))
        · have h1 : Lin.lt S[k - 1].1 id = true := by rw [← hga (by omega)]; assumption
          have h2 : (!Lin.lt qn id) = true := by assumption
          have e : m' = some (id, X) := by rw [hm']; simp at h2; simp [minStepE, aheadB, h1, h2]
          subst e
          exact ⟨hil, (), hk.sd, hS.sb, trivial⟩
        · have h1 : Lin.lt S[k - 1].1 id = true := by rw [← hga (by omega)]; assumption
          have h2 : (!Lin.lt qn id) = false := by assumption
          have e : m' = some (qn, qx) := by rw [hm']; simp at h2; simp [minStepE, aheadB, h1, h2]
          subst e
          exact ⟨hil, (), hk.sd, hS.sb, trivial⟩
        · have h1 : Lin.lt S[k - 1].1 id = false := by rw [← hga (by omega)]; assumption
          have e : m' = some (qn, qx) := by rw [hm']; simp [minStepE, aheadB, h1]
          subst e
          exact ⟨hil, (), hk.sd, hS.sb, trivial⟩
  · have : i = l.length := by omega
    subst this
    rw [List.take_length, hm1] at hk hS
    by_cases hkS : k < S.length
    · obtain ⟨⟨i2, X2⟩, hSk⟩ : ∃ e, S[k]? = some e := ⟨_, List.getElem?_eq_getElem hkS⟩
      rw [hSk] at hk hS
      simp only [Option.isSome_some, Option.getD_some] at hk hS
      (repeat' (first | (show wpListIn _ _ _ _ _ (_ :: _) _ _; first | (refine wx1 ?_; clear hk a; intro a hk) | (refine wx2 ?_ ?_ <;> (intro hp; clear hk a; intro a hk)) | (refine wx3 ?_; clear hk hS a; intro w b hS a hk) | (refine wx4 ?_; clear hk hS a; intro w hS a hk) | (refine wx5 ?_; clear hk hS a; intro w v hS a hk) | fail) | refine wx0 ?_ | (refine s_end hk ?_; clear hk a; intro a hk) | fail))
      refine sg hk (g_bsT (xs := [((i2, X2) : PrI)]) (m := 0) hk hS ?_ (hT := eT rfl) (hE := zT rfl) (hz := oT rfl)); clear hk hS a; intro w ve hS a hk
      (repeat' (first | (show wpListIn _ _ _ _ _ (_ :: _) _ _; first | (refine wx1 ?_; clear hk a; intro a hk) | (refine wx2 ?_ ?_ <;> (intro hp; clear hk a; intro a hk)) | (refine wx3 ?_; clear hk hS a; intro w b hS a hk) | (refine wx4 ?_; clear hk hS a; intro w hS a hk) | (refine wx5 ?_; clear hk hS a; intro w v hS a hk) | fail) | refine wx0 ?_ | (refine s_end hk ?_; clear hk a; intro a hk) | fail))
      have hst : S.take (k + 1) = S.take k ++ [(i2, X2)] := take_snoc hSk
      rw [← hst] at hS
      exact ⟨hkS, _, hk.sd, hS.sb, trivial⟩
    · have : k = S.length := by omega
      subst this
      rw [List.getElem?_eq_none (Nat.le_refl _)] at hk hS
      rw [List.take_length] at hS
      simp only [Option.isSome_none] at hk
      (repeat' (first | (show wpListIn _ _ _ _ _ (_ :: _) _ _; first | (refine wx1 ?_; clear hk a; intro a hk) | (refine wx2 ?_ ?_ <;> (intro hp; clear hk a; intro a hk)) | (refine wx3 ?_; clear hk hS a; intro w b hS a hk) | (refine wx4 ?_; clear hk hS a; intro w hS a hk) | (refine wx5 ?_; clear hk hS a; intro w v hS a hk) | fail) | refine wx0 ?_ | (refine s_end hk ?_; clear hk a; intro a hk) | fail))
      exact done1 hk (h := hS.sb)

def few04 (l : List PrI) (n : Nat) : List PrI := (l.take n).map (fun p => (cutF p.1 20, p.2))
end Go.Proofs.YtipdgobplfkipaaGreatDoor
namespace Go.Proofs.YtipdgobplfkipaaGreatDoor
open Go.RowKit
set_option maxRecDepth 100000
attribute [local irreducible] Go.Code.wpIn Go.wpListIn Go.Calls Gives Go.Exit.then Go.Exit.inBlock Done ObxE

section
variable {α β κ : Type} [DecidableEq κ] [Lin κ] {key : α → κ} {key' : β → κ} {f : α → β}
theorem putF_map : ∀ {s : List α} {e : α}, (∀ a ∈ s, key' (f a) = key a) → key' (f e) = key e → putF key' (s.map f) (f e) = (putF key s e).map f
  | [], e, _, _ => rfl
  | x :: s, e, hs, he => by
    have hx := hs x (by simp)
    have ih := putF_map (s := s) (e := e) (fun a h => hs a (by simp [h])) he
    simp only [List.map_cons, putF, hx, he]
    split
    · rfl
    · split
      · rfl
      · rw [ih]; rfl
theorem snapF_map (l : List α) (h : ∀ a ∈ l, key' (f a) = key a) : snapF key' (l.map f) = (snapF key l).map f := by
  suffices hh : ∀ n, n ≤ l.length → snapF key' ((l.take n).map f) = (snapF key (l.take n)).map f by
    have := hh l.length (Nat.le_refl _)
    rwa [List.take_length] at this
  intro n
  induction n with
  | zero => intro _; rfl
  | succ n ih =>
    intro hn
    have hx : l[n]? = some l[n] := List.getElem?_eq_getElem (by omega)
    rw [take_snoc hx, List.map_append, List.map_singleton, snap_snoc, snap_snoc, ih (by omega)]
    refine putF_map (fun a ha => h a ?_) (h _ (List.getElem_mem _))
    exact List.mem_of_mem_take (last_mem key ((snap_last key).1 ha))
end

def idxF (l : List PrS) (n : Nat) : List PrI := (List.range n).map (fun i : Nat => ((l[i]?.getD (⟨#[]⟩, ⟨#[]⟩)).1, (i : Int)))
theorem idxF_len (l : List PrS) (n : Nat) : (idxF l n).length = n := by simp [idxF]
theorem idxF_snoc {l : List PrS} {i : Nat} {x : PrS} (h : l[i]? = some x) : idxF l (i + 1) = idxF l i ++ [(x.1, (i : Int))] := by simp [idxF, List.range_succ, h]
def atI (l : List PrS) (p : PrI) : PrS := l[p.2.toNat]?.getD (⟨#[]⟩, ⟨#[]⟩)
theorem idxF_at (l : List PrS) {p : PrI} (h : p ∈ idxF l l.length) : ∃ i : Nat, ∃ x : PrS, p = (x.1, (i : Int)) ∧ l[i]? = some x := by
  simp only [idxF, List.mem_map, List.mem_range] at h
  obtain ⟨i, hi, rfl⟩ := h
  exact ⟨i, l[i], by rw [List.getElem?_eq_getElem hi]; rfl, List.getElem?_eq_getElem hi⟩
theorem idxF_snap (l : List PrS) : (snapF nmI (idxF l l.length)).map (atI l) = snapF nmS l := by
  have h := snapF_map (key := nmI) (key' := nmS) (f := atI l) (idxF l l.length) (fun p hp => by
    obtain ⟨i, x, rfl, hx⟩ := idxF_at l hp
    show (atI l (x.1, (i : Int))).1 = x.1
    simp [atI, hx])
  rw [← h]
  congr 1
  apply List.ext_getElem?
  intro j
  simp only [idxF, List.map_map, List.getElem?_map]
  rcases Nat.lt_or_ge j l.length with hj | hj
  · rw [List.getElem?_range hj]
    simp [atI, List.getElem?_eq_getElem hj]
  · rw [List.getElem?_eq_none (by simpa using hj), List.getElem?_eq_none hj]
    rfl

set_option maxHeartbeats 1000000 in
theorem attrs07_any (l : List PrS) (v : Value) (w0 : World) (hv : SlT l v w0) (hl : l.length ≤ 1000) :
    Calls Tryz.prog 37 #[v] w0 (Ret fun v w => St w0 [OwT 73 (snapF nmS l) v] w) := by
  have hsn := idxF_snap l
  have hsl := snap_len nmI (idxF l l.length)
  rw [idxF_len] at hsl
  have hmem : ∀ p ∈ snapF nmI (idxF l l.length), ∃ i : Nat, ∃ x : PrS, p = (x.1, (i : Int)) ∧ l[i]? = some x := fun p hp => idxF_at l (last_mem nmI ((snap_last nmI).1 hp))
  refine enter Tryz.func37 rfl Tryz.ntmps37 rfl (fun a hk => ?_); have hS := St.refl w0
  (repeat' (first | (show wpListIn _ _ _ _ _ (_ :: _) _ _; first | (refine wx1 ?_; clear hk a; intro a hk) | (refine wx2 ?_ ?_ <;> (intro hp; clear hk a; intro a hk)) | (refine wx3 ?_; clear hk hS a; intro w b hS a hk) | (refine wx4 ?_; clear hk hS a; intro w hS a hk) | (refine wx5 ?_; clear hk hS a; intro w v hS a hk) | fail) | refine wx0 ?_ | (refine s_end hk ?_; clear hk a; intro a hk) | fail))
  refine sg hk (g_bs0 PrI hS ?_ (hT := eT rfl) (hE := zT rfl)); clear hk hS a; intro w v3 hS a hk
  (repeat' (first | (show wpListIn _ _ _ _ _ (_ :: _) _ _; first | (refine wx1 ?_; clear hk a; intro a hk) | (refine wx2 ?_ ?_ <;> (intro hp; clear hk a; intro a hk)) | (refine wx3 ?_; clear hk hS a; intro w b hS a hk) | (refine wx4 ?_; clear hk hS a; intro w hS a hk) | (refine wx5 ?_; clear hk hS a; intro w v hS a hk) | fail) | refine wx0 ?_ | (refine s_end hk ?_; clear hk a; intro a hk) | fail))
  replace hk := Kn.kp [0, 3, 10, 11, 12] hk
  refine wp_for l.length (fun i v => [(3, v), (12, .int .i64 (i : Int))]) (fun i v => [OwT 75 (idxF l i) v]) (fun _ _ => True) v3 hk (by repeat (first | exact trivial | refine ⟨rfl, ?_⟩)) hS.sb trivial ?_
  clear hk hS a
  rintro i vo a w hi hk hS -
  have hil' := idxF_len l i
  by_cases hil : i < l.length
  · obtain ⟨⟨key, val⟩, hx⟩ : ∃ x, l[i]? = some x := ⟨_, List.getElem?_eq_getElem hil⟩
    have hst := idxF_snoc hx
    (repeat' (first | (show wpListIn _ _ _ _ _ (_ :: _) _ _; first | (refine wx1 ?_; clear hk a; intro a hk) | (refine wx2 ?_ ?_ <;> (intro hp; clear hk a; intro a hk)) | (refine wx3 ?_; clear hk hS a; intro w b hS a hk) | (refine wx4 ?_; clear hk hS a; intro w hS a hk) | (refine wx5 ?_; clear hk hS a; intro w v hS a hk) | fail) | refine wx0 ?_ | (refine s_end hk ?_; clear hk a; intro a hk) | fail))
    refine sg hk (g_bsT (xs := [((key, (i : Int)) : PrI)]) (m := 0) hk hS ?_ (hT := eT rfl) (hE := zT rfl) (hz := oT rfl)); clear hk hS a; intro w ve hS a hk
    (repeat' (first | (show wpListIn _ _ _ _ _ (_ :: _) _ _; first | (refine wx1 ?_; clear hk a; intro a hk) | (refine wx2 ?_ ?_ <;> (intro hp; clear hk a; intro a hk)) | (refine wx3 ?_; clear hk hS a; intro w b hS a hk) | (refine wx4 ?_; clear hk hS a; intro w hS a hk) | (refine wx5 ?_; clear hk hS a; intro w v hS a hk) | fail) | refine wx0 ?_ | (refine s_end hk ?_; clear hk a; intro a hk) | fail))
    rw [← hst] at hS
    exact ⟨hil, _, hk.sd, hS.sb, trivial⟩
  · have : i = l.length := by omega
    subst this
    clear hil'
    (repeat' (first | (show wpListIn _ _ _ _ _ (_ :: _) _ _; first | (refine wx1 ?_; clear hk a; intro a hk) | (refine wx2 ?_ ?_ <;> (intro hp; clear hk a; intro a hk)) | (refine wx3 ?_; clear hk hS a; intro w b hS a hk) | (refine wx4 ?_; clear hk hS a; intro w hS a hk) | (refine wx5 ?_; clear hk hS a; intro w v hS a hk) | fail) | refine wx0 ?_ | (refine s_end hk ?_; clear hk a; intro a hk) | fail))
    refine sg hk (g_bs0 PrS hS ?_ (hT := eT rfl) (hE := zT rfl)); clear hk hS a; intro w v6 hS a hk
    (repeat' (first | (show wpListIn _ _ _ _ _ (_ :: _) _ _; first | (refine wx1 ?_; clear hk a; intro a hk) | (refine wx2 ?_ ?_ <;> (intro hp; clear hk a; intro a hk)) | (refine wx3 ?_; clear hk hS a; intro w b hS a hk) | (refine wx4 ?_; clear hk hS a; intro w hS a hk) | (refine wx5 ?_; clear hk hS a; intro w v hS a hk) | fail) | refine wx0 ?_ | (refine s_end hk ?_; clear hk a; intro a hk) | fail))
    refine sg hk (g_callO hk (hf := by kernel_rfl) (hc := refOf_any (idxF l l.length) vo _ (by first | exact St.rdT hS (by assumption) | exact OwT.rd (hS.rd (A := OwT _ _ _) (by (repeat (first | exact At.here | apply At.there)))) | assumption) (by rw [idxF_len]; omega)) (h := ?_)); clear hk a; rintro vs w hS1 a hk; replace hS := hS.call hS1; clear hS1
    rw [List.cons_append, List.nil_append] at hS
    generalize snapF nmI (idxF l l.length) = S at *
    (repeat' (first | (show wpListIn _ _ _ _ _ (_ :: _) _ _; first | (refine wx1 ?_; clear hk a; intro a hk) | (refine wx2 ?_ ?_ <;> (intro hp; clear hk a; intro a hk)) | (refine wx3 ?_; clear hk hS a; intro w b hS a hk) | (refine wx4 ?_; clear hk hS a; intro w hS a hk) | (refine wx5 ?_; clear hk hS a; intro w v hS a hk) | fail) | refine wx0 ?_ | (refine s_end hk ?_; clear hk a; intro a hk) | fail))
    replace hk := Kn.kp [0, 6, 27, 28, 29] hk
    refine wp_for S.length (fun i v => [(6, v), (29, .int .i64 (i : Int))]) (fun i v => [OwT 73 ((S.take i).map (atI l)) v, OwT 75 S vs]) (fun _ _ => True) v6 hk (by repeat (first | exact trivial | refine ⟨rfl, ?_⟩)) hS.sb trivial ?_
    clear hk hS a
    rintro j vp a w hj hk hS -
    have htl : ((S.take j).map (atI l)).length ≤ j := by rw [List.length_map, List.length_take]; omega
    by_cases hjl : j < S.length
    · obtain ⟨q, x, hq, hx⟩ := hmem (S[j]'hjl) (List.getElem_mem hjl)
      have hs : S[j]? = some (x.1, (q : Int)) := by rw [List.getElem?_eq_getElem hjl, hq]
      have hst : (S.take (j + 1)).map (atI l) = (S.take j).map (atI l) ++ [x] := by rw [take_snoc hs, List.map_append, List.map_singleton]; simp [atI, hx]
      obtain ⟨key, val⟩ := x
      have hql : q < l.length := by
        rcases Nat.lt_or_ge q l.length with h | h
        · exact h
        · rw [List.getElem?_eq_none h] at hx; cases hx
      (repeat' (first | (show wpListIn _ _ _ _ _ (_ :: _) _ _; first | (refine wx1 ?_; clear hk a; intro a hk) | (refine wx2 ?_ ?_ <;> (intro hp; clear hk a; intro a hk)) | (refine wx3 ?_; clear hk hS a; intro w b hS a hk) | (refine wx4 ?_; clear hk hS a; intro w hS a hk) | (refine wx5 ?_; clear hk hS a; intro w v hS a hk) | fail) | refine wx0 ?_ | (refine s_end hk ?_; clear hk a; intro a hk) | fail))
      refine sg hk (g_bsT (xs := [((key, val) : PrS)]) (m := 0) hk hS ?_ (hT := eT rfl) (hE := zT rfl) (hz := oT rfl)); clear hk hS a; intro w ve hS a hk
      (repeat' (first | (show wpListIn _ _ _ _ _ (_ :: _) _ _; first | (refine wx1 ?_; clear hk a; intro a hk) | (refine wx2 ?_ ?_ <;> (intro hp; clear hk a; intro a hk)) | (refine wx3 ?_; clear hk hS a; intro w b hS a hk) | (refine wx4 ?_; clear hk hS a; intro w hS a hk) | (refine wx5 ?_; clear hk hS a; intro w v hS a hk) | fail) | refine wx0 ?_ | (refine s_end hk ?_; clear hk a; intro a hk) | fail))
      rw [← hst] at hS
      exact ⟨hjl, _, hk.sd, hS.sb, trivial⟩
    · have : j = S.length := by omega
      subst this
      rw [List.take_length, hsn] at hS
      (repeat' (first | (show wpListIn _ _ _ _ _ (_ :: _) _ _; first | (refine wx1 ?_; clear hk a; intro a hk) | (refine wx2 ?_ ?_ <;> (intro hp; clear hk a; intro a hk)) | (refine wx3 ?_; clear hk hS a; intro w b hS a hk) | (refine wx4 ?_; clear hk hS a; intro w hS a hk) | (refine wx5 ?_; clear hk hS a; intro w v hS a hk) | fail) | refine wx0 ?_ | (refine s_end hk ?_; clear hk a; intro a hk) | fail))
      exact done1 hk (h := hS.sb)
end Go.Proofs.YtipdgobplfkipaaGreatDoor
namespace Go.Proofs.YtipdgobplfkipaaGreatDoor
open Go.RowKit
set_option maxRecDepth 100000
attribute [local irreducible] Go.Code.wpIn Go.wpListIn Go.Calls Gives Go.Exit.then Go.Exit.inBlock Done ObxE

open Classical in
noncomputable def addC (l : List ByteArray) (c : ByteArray) : List ByteArray := if c ∈ l then l else l ++ [c]
noncomputable def clnC (l : List ByteArray) : List ByteArray := l.foldl addC []
end Go.Proofs.YtipdgobplfkipaaGreatDoor
namespace Go.Proofs.YtipdgobplfkipaaGreatDoor
open Go.RowKit
set_option maxRecDepth 100000
attribute [local irreducible] Go.Code.wpIn Go.wpListIn Go.Calls Gives Go.Exit.then Go.Exit.inBlock Done ObxE

def few03 (l : List ByteArray) (n : Nat) : List ByteArray := (l.take n).map (fun c => cutF c 20)
end Go.Proofs.YtipdgobplfkipaaGreatDoor
namespace Go.Proofs.YtipdgobplfkipaaGreatDoor
open Go.RowKit
set_option maxRecDepth 100000
attribute [local irreducible] Go.Code.wpIn Go.wpListIn Go.Calls Gives Go.Exit.then Go.Exit.inBlock Done ObxE

end Go.Proofs.YtipdgobplfkipaaGreatDoor
namespace Go.Proofs.YtipdgobplfkipaaGreatDoor
open Go.RowKit
set_option maxRecDepth 100000
attribute [local irreducible] Go.Code.wpIn Go.wpListIn Go.Calls Gives Go.Exit.then Go.Exit.inBlock Done ObxE

abbrev FlH := Int × Int × ByteArray × ByteArray × ByteArray × Hd × Hd × Hd × Opt
abbrev flV (h : FlH) : Value := .agg (Enc.f h).toArray
def fewA (l : List (ByteArray × ByteArray)) (n : Nat) : List (ByteArray × ByteArray) := (l.take n).map (fun p => (cutF p.1 20, cutF p.2 40))
theorem cutF_len (s : ByteArray) (n : Nat) : (cutF s n).size ≤ n := by
  unfold cutF
  split
  · simp; omega
  · omega

def nodeF (k : Int) (tag key text : ByteArray) (cl : List ByteArray) (al : List (ByteArray × ByteArray)) (sl : List (ByteArray × Int)) (o : Opt) : Tree :=
  .mk k (cutF tag 20) (cutF key 20) (cutF text 70) (few03 cl 4) (fewA al 4) (few04 sl 4) o []

end Go.Proofs.YtipdgobplfkipaaGreatDoor
namespace Go.Proofs.YtipdgobplfkipaaGreatDoor
open Go.RowKit
set_option maxRecDepth 100000
attribute [local irreducible] Go.Code.wpIn Go.wpListIn Go.Calls Gives Go.Exit.then Go.Exit.inBlock Done ObxE

def in64 (x : Int) : Prop := -9223372036854775808 ≤ x ∧ x ≤ 9223372036854775807
def FlR (w : World) (h : FlH) : Prop := ∃ (dp k : Int) (tag key text : ByteArray) (cl : List ByteArray) (al : List (ByteArray × ByteArray)) (sl : List (ByteArray × Int)) (e lv m d : Int) (p q : Bool) (a1 a2 a3 : Option Addr) (m1 m2 m3 : Nat),
  h = (dp, k, tag, key, text, ⟨a1, cl.length, m1⟩, ⟨a2, al.length, m2⟩, ⟨a3, sl.length, m3⟩, (e, lv, m, d, p, q)) ∧ SlT cl (.slice a1 cl.length m1) w ∧ SlT al (.slice a2 al.length m2) w ∧ SlT sl (.slice a3 sl.length m3) w ∧
  in64 dp ∧ in64 k ∧ in64 e ∧ in64 lv ∧ in64 m ∧ in64 d ∧ ∀ x ∈ sl, in64 x.2

def okN (k : Int) (tag key text : ByteArray) (cl : List ByteArray) (al : List (ByteArray × ByteArray)) (sl : List (ByteArray × Int)) (o : Opt) : Prop :=
  in64 k ∧ tag.size ≤ 20 ∧ key.size ≤ 20 ∧ text.size ≤ 70 ∧ cl.length ≤ 4 ∧ (∀ c ∈ cl, c.size ≤ 20) ∧ al.length ≤ 4 ∧ (∀ x ∈ al, x.1.size ≤ 20 ∧ x.2.size ≤ 40) ∧ sl.length ≤ 4 ∧ (∀ x ∈ sl, x.1.size ≤ 20 ∧ in64 x.2) ∧
  in64 o.1 ∧ in64 o.2.1 ∧ in64 o.2.2.1 ∧ in64 o.2.2.2.1
inductive Small : Tree → Prop where
  | mk {k : Int} {tag key text : ByteArray} {cl : List ByteArray} {al : List (ByteArray × ByteArray)} {sl : List (ByteArray × Int)} {o : Opt} {kids : List Tree} (h : okN k tag key text cl al sl o) (hk : ∀ t ∈ kids, Small t) : Small (.mk k tag key text cl al sl o kids)
mutual
def cnt : Tree → Nat
  | .mk _ _ _ _ _ _ _ _ kids => cntL kids + 1
def cntL : List Tree → Nat
  | [] => 0
  | t :: ts => cnt t + cntL ts
end
structure KS where
  at_ : Nat
  ts : List Tree
  H : List NdH
  a : Option Addr
  c : Nat

end Go.Proofs.YtipdgobplfkipaaGreatDoor
namespace Go.Proofs.YtipdgobplfkipaaGreatDoor
open Go.RowKit

def Tree.kind : Tree → Int
  | .mk k _ _ _ _ _ _ _ _ => k
def Tree.text : Tree → ByteArray
  | .mk _ _ _ x _ _ _ _ _ => x
def Tree.plus : Tree → ByteArray → Tree
  | .mk k tag key text cl al sl o ks, x => .mk k tag key (text ++ x) cl al sl o ks
def Tree.void (t : Tree) : Prop := t.kind = 1 ∧ t.text = ⟨#[]⟩
instance (t : Tree) : Decidable t.void := by unfold Tree.void; exact inferInstance

def mrgS (out : List Tree) (t : Tree) : List Tree :=
  match out.getLast? with
  | some u => if t.kind = 1 ∧ u.kind = 1 then out.dropLast ++ [u.plus t.text] else out ++ [t]
  | none => out ++ [t]
def mrg (l : List Tree) : List Tree := l.foldl mrgS []
noncomputable section
mutual
def nrm : Tree → Tree
  | .mk k tag key text cl al sl o kids => .mk k tag key text (clnC cl) (snapF nmS al) (snapF nmI sl) o (mrg (nrmL kids))
def nrmL : List Tree → List Tree
  | [] => []
  | t :: ts => if t.void then nrmL ts else nrm t :: nrmL ts
end
end
def txtL (l : List Tree) : Nat := l.foldl (fun n t => n + t.text.size) 0
inductive Fit (X : Nat) : Tree → Prop
  | mk {k : Int} {tag key text : ByteArray} {cl : List ByteArray} {at_ : List (ByteArray × ByteArray)} {st : List (ByteArray × Int)} {o : Opt} {kids : List Tree}
    (h1 : cl.length ≤ 100) (h2 : at_.length ≤ 100) (h3 : st.length ≤ 100) (h4 : kids.length ≤ 1000) (h5 : text.size ≤ X) (h6 : ∀ t ∈ kids, Fit X t) : Fit X (.mk k tag key text cl at_ st o kids)
end Go.Proofs.YtipdgobplfkipaaGreatDoor
namespace Go.Proofs.YtipdgobplfkipaaGreatDoor
open Go.RowKit

def namesL (cl : List ByteArray) (al : List PrS) (sl : List PrI) : List ByteArray := cl ++ al.map (·.1) ++ sl.map (·.1)
def lasts (n : Int) : Bool := decide (0 ≤ n ∧ n ≤ 1000)
def optsB (o : Opt) (k : Int) : Bool :=
  if k = 3 then lasts o.1 && lasts o.2.1 && lasts o.2.2.1 && decide (o.2.2.2.1 = 0)
  else if k = 4 then lasts o.1 && lasts o.2.1 && decide (o.2.2.1 = 0) && !o.2.2.2.2.2 && decide (0 ≤ o.2.2.2.1 ∧ o.2.2.2.1 ≤ 2)
  else decide (o = (0, 0, 0, 0, false, false))
def bareB (tag key : ByteArray) (cl : List ByteArray) (al : List PrS) (sl : List PrI) (o : Opt) (kids : List Tree) : Bool :=
  decide (tag = ⟨#[]⟩ ∧ key = ⟨#[]⟩ ∧ cl.length + al.length + sl.length + kids.length = 0 ∧ o = (0, 0, 0, 0, false, false))
def valB (al : List PrS) (sl : List PrI) : Bool := al.all (fun x => valS x.2) && sl.all (fun x => decide (-2147483648 ≤ x.2 ∧ x.2 ≤ 2147483647))
def Tree.key : Tree → ByteArray
  | .mk _ _ y _ _ _ _ _ _ => y
def kidB (t : Tree) : Bool := decide (t.kind = 2 ∧ t.key ≠ ⟨#[]⟩)
def keptB (k : Int) (kids : List Tree) : Bool := decide (k = 2) || (kids.all kidB && (decide (k = 3) || decide (kids.length ≤ 1)))
def mayB (k : Int) (tag key text : ByteArray) (cl : List ByteArray) (al : List PrS) (sl : List PrI) (o : Opt) (kids : List Tree) : Bool :=
  if k = 1 then bareB tag key cl al sl o kids && txtS text
  else if k = 2 ∨ k = 3 ∨ k = 4 then decide (text = ⟨#[]⟩) && nameS tag && (namesL cl al sl).all nameS && (decide (key = ⟨#[]⟩) || keyS key) && valB al sl && optsB o k && keptB k kids
  else false
def cntK (c : ByteArray) (ks : List ByteArray) : Nat := ks.countP (fun x => decide (x = c))
def twcB (ks : List ByteArray) : Bool := ks.any (fun c => decide (c ≠ ⟨#[]⟩ ∧ 1 < cntK c ks))

mutual
def chkT : Tree → Int → Int → Int → Int × Int
  | .mk k tag key text cl al sl o kids, deep, depth, left =>
    if depth < deep then (7, left - 1)
    else if left - 1 < 0 then (8, left - 1)
    else if mayB k tag key text cl al sl o kids = false then (4, left - 1)
    else if (namesL cl al sl).any rsvS = true then (6, left - 1)
    else if twcB (kids.map Tree.key) = true then (5, left - 1)
    else chkL kids (deep + 1) depth (left - 1)
def chkL : List Tree → Int → Int → Int → Int × Int
  | [], _, _, left => (0, left)
  | t :: ts, deep, depth, left => if (chkT t deep depth left).1 = 0 then chkL ts deep depth (chkT t deep depth left).2 else chkT t deep depth left
end
inductive Siz (X : Nat) : Tree → Prop
  | mk {k : Int} {tag key text : ByteArray} {cl : List ByteArray} {al : List (ByteArray × ByteArray)} {sl : List (ByteArray × Int)} {o : Opt} {kids : List Tree}
    (h1 : tag.size ≤ X) (h2 : key.size ≤ X) (h3 : text.size ≤ X) (h4 : ∀ c ∈ cl, c.size ≤ X) (h5 : ∀ x ∈ al, x.1.size ≤ X ∧ x.2.size ≤ X) (h6 : ∀ x ∈ sl, x.1.size ≤ X) (h7 : ∀ t ∈ kids, Siz X t) : Siz X (.mk k tag key text cl al sl o kids)
end Go.Proofs.YtipdgobplfkipaaGreatDoor
namespace Go.Proofs.YtipdgobplfkipaaGreatDoor
open Go.RowKit

end Go.Proofs.YtipdgobplfkipaaGreatDoor
namespace Go.Proofs.YtipdgobplfkipaaGreatDoor
inductive FitsW : Tree → Prop
  | mk {k : Int} {tag key text : ByteArray} {cl : List ByteArray} {at_ : List (ByteArray × ByteArray)} {st : List (ByteArray × Int)} {o : Opt} {kids : List Tree}
    (h1 : cl.length ≤ 1000) (h2 : at_.length ≤ 1000) (h3 : st.length ≤ 1000) (h4 : kids.length ≤ 1000) (h5 : ∀ t ∈ kids, FitsW t) : FitsW (.mk k tag key text cl at_ st o kids)
end Go.Proofs.YtipdgobplfkipaaGreatDoor
namespace Go.Proofs.YtipdgobplfkipaaGreatDoor
open Go.RowKit

theorem view_fits (s : ByteArray) (hs : s.size ≤ 1000) : ∀ (f : Nat), (∀ (i op : Nat) (t : Tree) (j : Nat), viewF s f i op = .ok t j → FitsW t ∧ i < j ∧ j ≤ s.size) ∧
    (∀ (i op : Nat) (n : Itm) (seen : List ByteArray) (kids : List Tree) (t : Tree) (j : Nat), elemF s f i op n seen kids = .ok t j → i ≤ s.size → n.cl.length ≤ i → n.al.length ≤ i → n.sl.length ≤ i → kids.length ≤ i → (∀ x ∈ kids, FitsW x) → FitsW t ∧ i < j ∧ j ≤ s.size)
  | 0 => ⟨(fun i op t j h => by simp only [viewF] at h; cases h), (fun i op n seen kids t j h => by simp only [elemF] at h; cases h)⟩
  | f + 1 => by
    obtain ⟨hv, he⟩ := view_fits s hs f
    refine ⟨fun i op t j h => ?_, fun i op n seen kids t j h hi h1 h2 h3 h4 h5 => ?_⟩
    · simp only [viewF] at h
      by_cases k3 : (tokF s i).kind = 3
      · rw [if_pos k3] at h
        injection h with e1 e2
        subst e1 e2
        obtain ⟨a, b⟩ := tok_till (s := s) (i := i) (by omega) (by omega)
        exact ⟨.mk (Nat.zero_le _) (Nat.zero_le _) (Nat.zero_le _) (Nat.zero_le _) (fun x hx => by cases hx), a, b⟩
      · rw [if_neg k3] at h
        by_cases k1 : (tokF s i).kind = 1
        · rw [if_pos k1] at h
          by_cases ho : 40 ≤ op
          · rw [if_pos ho] at h; cases h
          · rw [if_neg ho] at h
            by_cases hg : (tokF s (tokF s i).till).kind = 4 ∧ nameS (tokF s (tokF s i).till).txt = true
            · rw [if_pos hg] at h
              obtain ⟨a, b⟩ := tok_till (s := s) (i := i) (by omega) (by omega)
              obtain ⟨c, d⟩ := tok_till (s := s) (i := (tokF s i).till) (by omega) (by omega)
              obtain ⟨g1, g2, g3⟩ := he _ _ _ _ _ _ _ h d (Nat.zero_le _) (Nat.zero_le _) (Nat.zero_le _) (Nat.zero_le _) (fun x hx => by cases hx)
              exact ⟨g1, by omega, g3⟩
            · rw [if_neg hg] at h; cases h
        · rw [if_neg k1] at h; cases h
    · simp only [elemF] at h
      by_cases k2 : (tokF s i).kind = 2
      · rw [if_pos k2] at h
        injection h with e1 e2
        subst e1 e2
        obtain ⟨a, b⟩ := tok_till (s := s) (i := i) (by omega) (by omega)
        exact ⟨.mk (by omega) (by omega) (by omega) (by omega) h5, a, b⟩
      · rw [if_neg k2] at h
        by_cases k4 : (tokF s i).kind = 4
        · rw [if_pos k4] at h
          obtain ⟨a, b⟩ := tok_till (s := s) (i := i) (by omega) (by omega)
          cases hit : itemF n (tokF s i).txt seen with
          | none => rw [hit] at h; cases h
          | some y =>
            obtain ⟨m, more⟩ := y
            rw [hit] at h
            simp only at h
            obtain ⟨l1, l2, l3⟩ := item_len hit
            obtain ⟨g1, g2, g3⟩ := he _ _ _ _ _ _ _ h b (by omega) (by omega) (by omega) (by omega) h5
            exact ⟨g1, by omega, g3⟩
        · rw [if_neg k4] at h
          cases hvf : viewF s f i op with
          | ok k q =>
            rw [hvf] at h
            simp only at h
            obtain ⟨c1, c2, c3⟩ := hv _ _ _ _ hvf
            obtain ⟨g1, g2, g3⟩ := he _ _ _ _ _ _ _ h c3 (by omega) (by omega) (by omega) (by rw [List.length_append, List.length_cons, List.length_nil]; omega) (fun x hx => by
              rcases List.mem_append.1 hx with hx | hx
              · exact h5 x hx
              · rw [List.mem_singleton] at hx; subst hx; exact c1)
            exact ⟨g1, by omega, g3⟩
          | no a e => rw [hvf] at h; cases h
theorem parse_fits {s : ByteArray} (hs : s.size ≤ 1000) {t : Tree} {j : Nat} (h : parseF s = .ok t j) : FitsW t := by
  unfold parseF at h
  rw [if_neg (by omega)] at h
  cases hv : viewF s (2 * s.size + 2) 0 0 with
  | ok u q =>
    rw [hv] at h
    simp only at h
    split at h
    · injection h with h _
      subst h
      exact ((view_fits s hs _).1 _ _ _ _ hv).1
    · cases h
  | no a e => rw [hv] at h; cases h
theorem fitw_snapN : ∀ (n : Nat) (t : Tree), SizeOf.sizeOf t < n → FitsW t → FitsW (snapT t)
  | 0, t, h, _ => absurd h (by omega)
  | n + 1, .mk k tag key text cl al sl o kids, h, hp => by
    cases hp with
    | mk h1 h2 h3 h4 h5 =>
    rw [snapT]
    refine .mk h1 (by have := snap_len nmS al; omega) (by have := snap_len nmI sl; omega) (by rw [snapTs_len]; exact h4) ?_
    intro t ht
    rw [snapTs_map] at ht
    obtain ⟨u, hu, rfl⟩ := List.mem_map.1 ht
    refine fitw_snapN n u ?_ (h5 u hu)
    have := List.sizeOf_lt_of_mem hu
    simp only [Tree.mk.sizeOf_spec] at h
    omega
theorem fitw_snap {t : Tree} (h : FitsW t) : FitsW (snapT t) := fitw_snapN _ t (Nat.lt_succ_self _) h
def blA (at_ : List Int) (i : Nat) : Nat := match at_[i]? with
  | some x => (bits .and .i64 x 7).toNat
  | none => 1
def blP (L : List Tok) (i : Nat) : Prop := 0 < i ∧ (L[i]?.map Tok.kind) = some 4 ∧ (L[i - 1]?.map Tok.kind) = some 4
instance (L : List Tok) (i : Nat) : Decidable (blP L i) := by unfold blP; infer_instance
def blN (at_ : List Int) (L : List Tok) (i : Nat) : Nat := if blA at_ i = 0 ∧ blP L i then 1 else blA at_ i
def blL (at_ : List Int) (L : List Tok) : List (Nat × TK) := L.mapIdx (fun i t => (blN at_ L i, (t.kind, t.txt)))
def spSum : List Tok → Nat
  | [] => 0
  | t :: r => (spL (t.kind, t.txt)).length + spSum r
end Go.Proofs.YtipdgobplfkipaaGreatDoor
