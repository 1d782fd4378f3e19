/- What the types of this translation say: tables, each checked by the kernel. Printed by a program of the prover's (gen_ty.py). -/
import Derived.Test.YtakejjfmbgbedaaDoorL4
import Derived.Test.YtakejjfmbgbedaaDoorRows
namespace Go.Proofs.YtakejjfmbgbedaaDoor
set_option maxRecDepth 100000
def tyAgg : List (Option Bool) := [some false, some false, some false, some false, some false, some false, some false, some true, some true, some false, some false, some false, some false, some true, some true, some false, some false, some false, some true, some true, some false, some false, some false, some false, some false, some false, some false, some false, some false, some false, some false, some false, some false, some false, some false, some false, some false, some false, some false, some false, some true, some false, some false, some false, some false, some false, some false, some false, some true, some false, some true, some false, some false, some false, some true, some true, some false, some true, some true, some true, some true, some true, some false, some false, some false, some false, some false, some false, some false, some true, some true, some false]
def tySz : List (Option Nat) := [some 1, some 1, some 1, some 1, some 1, some 1, some 1, some 4, some 4, some 1, some 1, some 1, some 1, some 2, some 2, some 1, some 1, some 1, some 1, some 1, some 1, some 1, some 1, some 1, some 1, some 1, some 1, some 1, some 1, some 1, some 1, some 1, some 1, some 1, some 1, some 1, some 1, some 1, some 1, some 1, some 24, some 1, some 1, some 1, some 1, some 1, some 1, some 1, some 20, some 1, some 65, some 1, some 1, some 1, some 32, some 64, some 1, some 4, some 4, some 0, some 0, some 0, some 1, some 1, some 1, some 1, some 1, some 1, some 1, some 11, some 11, some 1]
def tyBy : List (Nat) := [0, 8, 8, 8, 1, 1, 1, 24, 24, 16, 16, 16, 8, 24, 24, 8, 8, 8, 8, 8, 16, 4, 8, 8, 8, 8, 8, 8, 0, 8, 8, 8, 24, 8, 0, 8, 8, 8, 24, 8, 24, 8, 8, 8, 0, 8, 8, 8, 160, 4, 65, 8, 8, 8, 32, 64, 8, 40, 40, 0, 0, 0, 8, 1, 1, 8, 8, 4, 4, 48, 48, 8]
def tyEl : List (Option Nat) := [none, none, none, none, none, none, none, none, none, none, none, none, none, none, none, none, none, none, none, none, none, none, none, none, none, none, none, none, none, none, none, none, some 9, none, none, none, none, none, some 5, none, none, none, none, none, none, none, none, none, none, none, none, none, none, none, none, none, none, none, none, none, none, none, none, none, none, none, none, none, none, none, none, none]
def tyFl : List (Option (List (Nat × Nat))) := [none, none, none, none, none, none, none, some [(0, 1), (1, 1), (2, 1), (3, 1)], some [(0, 1), (1, 1), (2, 1), (3, 1)], none, none, none, none, some [(0, 1), (1, 1)], some [(0, 1), (1, 1)], none, none, none, some [(0, 1)], some [(0, 1)], none, none, none, none, none, none, none, none, none, none, none, none, none, none, none, none, none, none, none, none, none, none, none, none, none, none, none, none, none, none, none, none, none, none, none, none, none, some [(0, 1), (1, 1), (2, 1), (3, 1)], some [(0, 1), (1, 1), (2, 1), (3, 1)], none, some [(0, 0)], some [(0, 0)], none, none, none, none, none, none, none, some [(0, 1), (1, 1), (2, 1), (3, 1), (4, 1), (5, 1), (6, 1), (7, 1), (8, 1), (9, 1), (10, 1)], some [(0, 1), (1, 1), (2, 1), (3, 1), (4, 1), (5, 1), (6, 1), (7, 1), (8, 1), (9, 1), (10, 1)], none]
def byOf (P : Program) (T : TypeId) : Nat := ((P.info? T).map (·.bytes)).getD 0
theorem mapM_get {P : Program} : ∀ {fs : List Field} {pl : List (Nat × Nat)} {f : Nat} {p : Nat × Nat}, fs.mapM (fun x => (szOf P x.type).map (x.offset, ·)) = some pl → pl[f]? = some p → ∃ x, fs[f]? = some x ∧ p = (x.offset, (szOf P x.type).getD 0)
  | [], pl, f, p, h, hp => by simp at h; subst h; simp at hp
  | x :: fs, pl, f, p, h, hp => by
    simp only [List.mapM_cons, Option.bind_eq_bind, Option.bind_eq_some_iff] at h
    obtain ⟨q, hq, qs, hqs, hpl⟩ := h
    simp only [Option.map_eq_some_iff] at hq
    obtain ⟨k, hk, rfl⟩ := hq
    simp at hpl
    subst hpl
    cases f with
    | zero => simp at hp; exact ⟨x, by simp, by simp [← hp, hk]⟩
    | succ f =>
      obtain ⟨y, hy, hpy⟩ := mapM_get hqs (by simpa using hp)
      exact ⟨y, by simpa using hy, hpy⟩
theorem fldOf_flds {P : Program} {T f : Nat} {pl : List (Nat × Nat)} {p : Nat × Nat} (h : fldsO P T = some pl) (hp : pl[f]? = some p) : fldOf P T f = some p := by
  unfold fldsO at h
  unfold fldOf
  cases hu : P.underlying T with
  | none => rw [hu] at h; simp at h
  | some d =>
    rw [hu] at h
    cases d <;> simp only [reduceCtorEq] at h
    case struct fs =>
      obtain ⟨x, hx, hpx⟩ := mapM_get h hp
      have hx' : fs[f]? = some x := by simpa using hx
      simp only [hx', hpx]
theorem tyAgg_eq : (List.range 72).map (aggOf Tryd.prog) = tyAgg := by kernel_rfl
theorem tySz_eq : (List.range 72).map (szOf Tryd.prog) = tySz := by kernel_rfl
theorem tyBy_eq : (List.range 72).map (byOf Tryd.prog) = tyBy := by kernel_rfl
theorem tyEl_eq : (List.range 72).map (elOf Tryd.prog) = tyEl := by kernel_rfl
theorem tyFl_eq : (List.range 72).map (fldsO Tryd.prog) = tyFl := by kernel_rfl
theorem tab_get {α : Type} {n : Nat} {f : Nat → α} {l : List α} (h : (List.range n).map f = l) {T : Nat} {x : α} (hx : l[T]? = some x) : f T = x := by
  subst h
  simp only [List.getElem?_map, Option.map_eq_some_iff] at hx
  obtain ⟨y, hy, rfl⟩ := hx
  rw [List.getElem?_range] at hy
  · injection hy with hy; rw [hy]
  · rcases Nat.lt_or_ge T n with h | h
    · exact h
    · rw [List.getElem?_eq_none (by simpa using h)] at hy; cases hy
theorem aT {T : Nat} {b : Bool} (h : tyAgg[T]? = some (some b)) : aggOf Tryd.prog T = some b := tab_get tyAgg_eq h
theorem zT {T k : Nat} (h : tySz[T]? = some (some k)) : szOf Tryd.prog T = some k := tab_get tySz_eq h
theorem bT {T k : Nat} (h : tyBy[T]? = some k) : byOf Tryd.prog T = k := tab_get tyBy_eq h
theorem eT {T k : Nat} (h : tyEl[T]? = some (some k)) : elOf Tryd.prog T = some k := tab_get tyEl_eq h
theorem fsT {T : Nat} {pl : List (Nat × Nat)} (h : tyFl[T]? = some (some pl)) : fldsO Tryd.prog T = some pl := tab_get tyFl_eq h
theorem fT {T f : Nat} {p : Nat × Nat} (h : (tyFl[T]?).bind (fun x => x.bind (·[f]?)) = some p) : fldOf Tryd.prog T f = some p := by
  cases hl : tyFl[T]? with
  | none => rw [hl] at h; simp at h
  | some l =>
    rw [hl] at h
    cases l with
    | none => simp at h
    | some pl => exact fldOf_flds (tab_get tyFl_eq hl) (by simpa using h)
def tyZ : List (Option Value) := [some (.tuple #[]), some (.nilFunc), some (.int .i64 0), some (.int .i64 0), some (.bool false), some (.int .u8 0), some (.int .u8 0), some (.agg #[.int .i64 0, .int .i64 0, .bool false, .int .u8 0]), some (.agg #[.int .i64 0, .int .i64 0, .bool false, .int .u8 0]), some (.string ⟨#[]⟩), some (.string ⟨#[]⟩), some (.string ⟨#[]⟩), some (.int .u64 0), some (.agg #[.string ⟨#[]⟩, .int .u64 0]), some (.agg #[.string ⟨#[]⟩, .int .u64 0]), some (.pointer none), some (.pointer none), some (.pointer none), some (.agg #[.pointer none]), some (.agg #[.pointer none]), some (.nilIface), some (.int .i32 0), some (.nilFunc), some (.nilFunc), some (.int .i64 0), some (.nilFunc), some (.nilFunc), some (.nilFunc), some (.tuple #[.int .i64 0, .bool false]), some (.nilFunc), some (.nilFunc), some (.nilFunc), some (.slice none 0 0), some (.nilFunc), some (.tuple #[.string ⟨#[]⟩, .bool false]), some (.nilFunc), some (.nilFunc), some (.nilFunc), some (.slice none 0 0), some (.nilFunc), some (.agg #[.int .u8 0, .int .u8 0, .int .u8 0, .int .u8 0, .int .u8 0, .int .u8 0, .int .u8 0, .int .u8 0, .int .u8 0, .int .u8 0, .int .u8 0, .int .u8 0, .int .u8 0, .int .u8 0, .int .u8 0, .int .u8 0, .int .u8 0, .int .u8 0, .int .u8 0, .int .u8 0, .int .u8 0, .int .u8 0, .int .u8 0, .int .u8 0]), some (.int .u64 0), some (.nilFunc), some (.nilFunc), some (.tuple #[.slice none 0 0, .string ⟨#[]⟩]), some (.nilFunc), some (.nilFunc), some (.nilFunc), some (.agg #[.int .u64 0, .int .u64 0, .int .u64 0, .int .u64 0, .int .u64 0, .int .u64 0, .int .u64 0, .int .u64 0, .int .u64 0, .int .u64 0, .int .u64 0, .int .u64 0, .int .u64 0, .int .u64 0, .int .u64 0, .int .u64 0, .int .u64 0, .int .u64 0, .int .u64 0, .int .u64 0]), some (.int .u32 0), some (.agg #[.int .u8 0, .int .u8 0, .int .u8 0, .int .u8 0, .int .u8 0, .int .u8 0, .int .u8 0, .int .u8 0, .int .u8 0, .int .u8 0, .int .u8 0, .int .u8 0, .int .u8 0, .int .u8 0, .int .u8 0, .int .u8 0, .int .u8 0, .int .u8 0, .int .u8 0, .int .u8 0, .int .u8 0, .int .u8 0, .int .u8 0, .int .u8 0, .int .u8 0, .int .u8 0, .int .u8 0, .int .u8 0, .int .u8 0, .int .u8 0, .int .u8 0, .int .u8 0, .int .u8 0, .int .u8 0, .int .u8 0, .int .u8 0, .int .u8 0, .int .u8 0, .int .u8 0, .int .u8 0, .int .u8 0, .int .u8 0, .int .u8 0, .int .u8 0, .int .u8 0, .int .u8 0, .int .u8 0, .int .u8 0, .int .u8 0, .int .u8 0, .int .u8 0, .int .u8 0, .int .u8 0, .int .u8 0, .int .u8 0, .int .u8 0, .int .u8 0, .int .u8 0, .int .u8 0, .int .u8 0, .int .u8 0, .int .u8 0, .int .u8 0, .int .u8 0, .int .u8 0]), some (.int .u64 0), some (.nilFunc), some (.nilFunc), some (.agg #[.int .u8 0, .int .u8 0, .int .u8 0, .int .u8 0, .int .u8 0, .int .u8 0, .int .u8 0, .int .u8 0, .int .u8 0, .int .u8 0, .int .u8 0, .int .u8 0, .int .u8 0, .int .u8 0, .int .u8 0, .int .u8 0, .int .u8 0, .int .u8 0, .int .u8 0, .int .u8 0, .int .u8 0, .int .u8 0, .int .u8 0, .int .u8 0, .int .u8 0, .int .u8 0, .int .u8 0, .int .u8 0, .int .u8 0, .int .u8 0, .int .u8 0, .int .u8 0]), some (.agg #[.int .u8 0, .int .u8 0, .int .u8 0, .int .u8 0, .int .u8 0, .int .u8 0, .int .u8 0, .int .u8 0, .int .u8 0, .int .u8 0, .int .u8 0, .int .u8 0, .int .u8 0, .int .u8 0, .int .u8 0, .int .u8 0, .int .u8 0, .int .u8 0, .int .u8 0, .int .u8 0, .int .u8 0, .int .u8 0, .int .u8 0, .int .u8 0, .int .u8 0, .int .u8 0, .int .u8 0, .int .u8 0, .int .u8 0, .int .u8 0, .int .u8 0, .int .u8 0, .int .u8 0, .int .u8 0, .int .u8 0, .int .u8 0, .int .u8 0, .int .u8 0, .int .u8 0, .int .u8 0, .int .u8 0, .int .u8 0, .int .u8 0, .int .u8 0, .int .u8 0, .int .u8 0, .int .u8 0, .int .u8 0, .int .u8 0, .int .u8 0, .int .u8 0, .int .u8 0, .int .u8 0, .int .u8 0, .int .u8 0, .int .u8 0, .int .u8 0, .int .u8 0, .int .u8 0, .int .u8 0, .int .u8 0, .int .u8 0, .int .u8 0, .int .u8 0]), some (.nilFunc), some (.agg #[.pointer none, .pointer none, .pointer none, .string ⟨#[]⟩]), some (.agg #[.pointer none, .pointer none, .pointer none, .string ⟨#[]⟩]), some (.agg #[]), some (.agg #[]), some (.agg #[]), some (.nilFunc), some (.int .u8 0), some (.int .u8 0), some (.nilFunc), some (.pointer none), some (.int .i32 0), some (.int .i32 0), some (.agg #[.int .u64 0, .int .u64 0, .int .u32 0, .int .u8 0, .int .u8 0, .int .u8 0, .int .u8 0, .nilFunc, .pointer none, .int .i32 0, .int .i32 0]), some (.agg #[.int .u64 0, .int .u64 0, .int .u32 0, .int .u8 0, .int .u8 0, .int .u8 0, .int .u8 0, .nilFunc, .pointer none, .int .i32 0, .int .i32 0]), some (.pointer none)]
def zeroOr (P : Program) (T : TypeId) : Option Value := match tyZ[T]? with | some (some _) => zeroOf P T | _ => none
theorem tyZ_eq : (List.range 72).map (zeroOr Tryd.prog) = tyZ := by kernel_rfl
theorem oT {T : Nat} {z : Value} (h : tyZ[T]? = some (some z)) : zeroOf Tryd.prog T = some z := by
  have := tab_get tyZ_eq h
  unfold zeroOr at this
  rw [h] at this
  exact this
def tyFv : List (Option (List (Nat × Option Bool))) := [none, none, none, none, none, none, none, some [(0, some false), (1, some false), (2, some false), (3, some false)], some [(0, some false), (1, some false), (2, some false), (3, some false)], none, none, none, none, some [(0, some false), (1, some false)], some [(0, some false), (1, some false)], none, none, none, some [(0, some false)], some [(0, some false)], none, none, none, none, none, none, none, none, none, none, none, none, none, none, none, none, none, none, none, none, none, none, none, none, none, none, none, none, none, none, none, none, none, none, none, none, none, some [(0, some false), (1, some false), (2, some false), (3, some false)], some [(0, some false), (1, some false), (2, some false), (3, some false)], none, some [(0, some true)], some [(0, some true)], none, none, none, none, none, none, none, some [(0, some false), (1, some false), (2, some false), (3, some false), (4, some false), (5, some false), (6, some false), (7, some false), (8, some false), (9, some false), (10, some false)], some [(0, some false), (1, some false), (2, some false), (3, some false), (4, some false), (5, some false), (6, some false), (7, some false), (8, some false), (9, some false), (10, some false)], none]
def tyMp : List (Option (Nat × Nat)) := [none, none, none, none, none, none, none, none, none, none, none, none, none, none, none, none, none, none, none, none, none, none, none, none, none, none, none, none, none, none, none, none, none, none, none, none, none, none, none, none, none, none, none, none, none, none, none, none, none, none, none, none, none, none, none, none, none, none, none, none, none, none, none, none, none, none, none, none, none, none, none, none]
def tySt : List (Bool) := [false, false, false, false, false, false, false, false, false, true, true, true, false, false, false, false, false, false, false, false, false, false, false, false, false, false, false, false, false, false, false, false, false, false, false, false, false, false, false, false, false, false, false, false, false, false, false, false, false, false, false, false, false, false, false, false, false, false, false, false, false, false, false, false, false, false, false, false, false, false, false, false]
def tyKi : List (Option IntKind) := [none, none, some .i64, some .i64, none, some .u8, some .u8, none, none, none, none, none, some .u64, none, none, none, none, none, none, none, none, some .i32, none, none, some .i64, none, none, none, none, none, none, none, none, none, none, none, none, none, none, none, none, some .u64, none, none, none, none, none, none, none, some .u32, none, some .u64, none, none, none, none, none, none, none, none, none, none, none, some .u8, some .u8, none, none, some .i32, some .i32, none, none, none]
def tyAr : List (Option (Nat × Nat)) := [none, none, none, none, none, none, none, none, none, none, none, none, none, none, none, none, none, none, none, none, none, none, none, none, none, none, none, none, none, none, none, none, none, none, none, none, none, none, none, none, some (24, 5), none, none, none, none, none, none, none, some (20, 41), none, some (65, 5), none, none, none, some (32, 5), some (64, 5), none, none, none, some (0, 16), none, none, none, none, none, none, none, none, none, none, none, none]
def tyArB (P : Program) (T : TypeId) : Option (Nat × Nat) := match P.underlying T with | some (.array m e) => some (m, e) | _ => none
theorem tyAr_eq : (List.range 72).map (tyArB Tryd.prog) = tyAr := by kernel_rfl
theorem arT {T m e : Nat} (h : tyAr[T]? = some (some (m, e))) : (Tryd.prog).underlying T = some (.array m e) := by
  have := tab_get tyAr_eq h
  unfold tyArB at this
  split at this
  · injection this with this; injection this with h1 h2; subst h1; subst h2; assumption
  · cases this
def tyStB (P : Program) (T : TypeId) : Bool := match P.underlying T with | some .string => true | _ => false
def tyKiB (P : Program) (T : TypeId) : Option IntKind := match P.underlying T with | some (.int k) => some k | _ => none
theorem tyFv_eq : (List.range 72).map (fvOf Tryd.prog) = tyFv := by kernel_rfl
theorem tyMp_eq : (List.range 72).map (mapOf Tryd.prog) = tyMp := by kernel_rfl
theorem tySt_eq : (List.range 72).map (tyStB Tryd.prog) = tySt := by kernel_rfl
theorem tyKi_eq : (List.range 72).map (tyKiB Tryd.prog) = tyKi := by kernel_rfl
theorem fvT {T : Nat} {fv : List (Nat × Option Bool)} (h : tyFv[T]? = some (some fv)) : fvOf Tryd.prog T = some fv := tab_get tyFv_eq h
theorem mT {T : Nat} {p : Nat × Nat} (h : tyMp[T]? = some (some p)) : mapOf Tryd.prog T = some p := tab_get tyMp_eq h
theorem sT {T : Nat} (h : tySt[T]? = some true) : (Tryd.prog).underlying T = some .string := by
  have := tab_get tySt_eq h
  unfold tyStB at this
  split at this
  · assumption
  · cases this
theorem iT {T : Nat} {k : IntKind} (h : tyKi[T]? = some (some k)) : (Tryd.prog).underlying T = some (.int k) := by
  have := tab_get tyKi_eq h
  unfold tyKiB at this
  split at this
  · injection this with this; subst this; assumption
  · cases this
def fnBody (P : Program) (f : Nat) : Bool := callable P f
theorem mixed : Tryd.prog.follows .mixedOrders = true := by kernel_rfl
end Go.Proofs.YtakejjfmbgbedaaDoor
