/- Rows of one's own: cleared in part. A range over a function: its record, its rounds, what stands behind it. Texts are cut. Layer 20: looks: which may be, how each is marked. Layer 21: a kid's calls. -/
import Derived.Test.YthodcfdgahfniaaGreatV07
import Derived.RangeFuncRecord
import Derived.Lib.SliceRun
import Derived.WalkSpells
import Derived.Test.YthodcfdgahfniaaGreatV06
set_option linter.all false
namespace Go.Proofs.YthodcfdgahfniaaGreat
variable {df : List Deferred}
open Go.RowKit

section
variable {P : Program} {a : Act} {w w' : World} {w0 : Bs} {n : Nat} {l : List (Nat × Value)} {L L' : List HP}
  {dst : Option Nat} {R : Value → World → Prop} {ty : TypeId} {pos : String} {af : Array Edge} {g : Option (Nat × Bool)}

theorem g_clear {x : Operand} {t E k b o m c : Nat} {z : Value} {vs : List Value} {E' : TypeId} (hk : Kn df n a l) (hS : St w0 L w)
    (h : ∀ (w' : World) (zs : List Value), zs.length = m * (k + 1) → St w0 (pts b (splice vs o zs) E' :: L') w' → R (.tuple #[]) w')
    (hx : ev l x = some (.slice (some ⟨b, o, none⟩) m c) := by rfl) (hat : At (pts b vs E') L L' := by (repeat (first | exact At.here | apply At.there))) (ht : elOf P t = some E) (hz : zeroOf P E = some z) (hzs : z.cells.size = k + 1) (hz1 : ∀ u ∈ z.cells.toList, u.oneCell' = true)
    (hfit : o + m * (k + 1) ≤ vs.length) : Gives P ⟨dst, .call { callee := .builtin .clear, args := #[x], argTypes := #[t] }, ty, pos, af, g⟩ a w R := by
  have hl : (Builtin.zeroCells z.cells m).toList.length = m * (k + 1) := by rw [Array.length_toList, size_zeroCells, hzs]
  have h1 : ∀ u ∈ (Builtin.zeroCells z.cells m).toList, u.oneCell' = true := by
    intro u hu
    simp only [Builtin.zeroCells] at hu
    simp at hu
    obtain ⟨q, hq, rfl⟩ := hu
    have hlt : q % z.cells.size < z.cells.size := Nat.mod_lt _ (by rw [hzs]; omega)
    rw [getElem!_pos z.cells _ hlt]
    exact hz1 _ (by simp)
  obtain ⟨w', hr, hS'⟩ := run_storeCells_own (P := P) (Builtin.zeroCells z.cells m).toList o 0 vs w hS hat h1 (by rw [hl]; simpa using hfit)
  simp only [Nat.add_zero] at hS'
  by_cases h0 : m = 0
  · subst h0
    have e : (Builtin.zeroCells z.cells 0).toList = [] := List.eq_nil_of_length_eq_zero (by rw [hl, Nat.zero_mul])
    rw [e] at hS' hr
    have hw : w' = w := by
      have : (storeCells ⟨b, o, none⟩ [] 0).run P w = .ok () w := rfl
      rw [this] at hr
      injection hr with _ hr
      exact hr.symm
    subst hw
    refine givesv (v := .tuple #[]) (w' := w') ?_ (h w' [] (by simp) hS')
    simp [execOp, resolve, invoke, builtin, hk.eval hx, Builtin.clear_, run_underlying (elOf_und ht)]
  · refine givesv (v := .tuple #[]) (w' := w') ?_ (h w' _ hl hS')
    simp [execOp, resolve, invoke, builtin, hk.eval hx, Builtin.clear_, run_underlying (elOf_und ht), zeroOf_run hz, hr]
end

def emp0 (v : Value) : HP where
  holds F _ := (∀ b, ¬ F b) ∧ ∃ ao, v = .slice ao 0 0
  stable := fun _ _ _ h _ => h
  dom := fun _ _ b h hb => absurd hb (h.1 b)
section
variable {P : Program} {a : Act} {w w' : World} {w0 : Bs} {n : Nat} {l : List (Nat × Value)} {L L' : List HP}
  {dst : Option Nat} {R : Value → World → Prop} {ty : TypeId} {pos : String} {af : Array Edge} {g : Option (Nat × Bool)} {α : Type} [Enc α]
end

section
variable {α : Type} (p : α → Bool)
structure Sieve (s ys : List α) (i j : Nat) : Prop where
  len : ys.length = s.length
  le : i < j
  head : ys.take i = (s.take j).filter (fun x => !p x)
  tail : ys.drop j = s.drop j
theorem Sieve.get {s ys : List α} {i j : Nat} (h : Sieve p s ys i j) (hj : j < s.length) : ys[j]? = some s[j] := by
  have := congrArg (·[0]?) h.tail
  simpa [List.getElem?_drop] using this.trans (by simp [List.getElem?_drop, List.getElem?_eq_getElem hj])
theorem Sieve.drop_ {s ys : List α} {i j : Nat} (h : Sieve p s ys i j) (hj : j < s.length) (hp : p s[j] = true) : Sieve p s ys i (j + 1) := by
  refine ⟨h.len, by have := h.le; omega, ?_, ?_⟩
  · rw [h.head, List.take_add_one, List.getElem?_eq_getElem hj, List.filter_append]
    simp [hp]
  · have := congrArg (List.drop 1) h.tail
    rwa [List.drop_drop, List.drop_drop] at this
theorem Sieve.keep {s ys : List α} {i j : Nat} (h : Sieve p s ys i j) (hj : j < s.length) (hp : p s[j] = false) : Sieve p s (ys.set i s[j]) (i + 1) (j + 1) := by
  have hl := h.len
  have hle := h.le
  refine ⟨by rw [List.length_set, hl], by omega, ?_, ?_⟩
  · rw [List.take_add_one (l := s), List.getElem?_eq_getElem hj, List.filter_append, ← h.head]
    have e : (ys.set i s[j]).take (i + 1) = (ys.set i s[j]).take i ++ [s[j]] := by
      rw [List.take_add_one, List.getElem?_set_self (by omega)]; rfl
    rw [e, List.take_set_of_le (Nat.le_refl i)]
    simp [hp]
  · rw [List.drop_set_of_lt (by omega)]
    have := congrArg (List.drop 1) h.tail
    rwa [List.drop_drop, List.drop_drop] at this
theorem Sieve.start {s : List α} {k : Nat} (hk : k < s.length) (hn : ∀ i (h : i < s.length), i < k → p s[i] = false) (hp : p s[k] = true) : Sieve p s s k (k + 1) := by
  refine ⟨rfl, by omega, ?_, rfl⟩
  rw [List.take_add_one, List.getElem?_eq_getElem hk, List.filter_append]
  have : (s.take k).filter (fun x => !p x) = s.take k := by
    rw [List.filter_eq_self]
    intro x hx
    obtain ⟨i, hi, rfl⟩ := List.getElem_of_mem hx
    rw [List.getElem_take]
    rw [List.length_take] at hi
    simp [hn i (by omega) (by omega)]
  rw [this]
  simp [hp]
theorem filter_none {s : List α} (h : ∀ i (h : i < s.length), p s[i] = false) : s.filter (fun x => !p x) = s := by
  rw [List.filter_eq_self]
  intro x hx
  obtain ⟨i, hi, rfl⟩ := List.getElem_of_mem hx
  simp [h i hi]
end

section
variable {α : Type} [Enc α]
theorem St.toTake {B : Bs} {w : World} {L L' : List HP} {b off cap i : Nat} {vs zs : List Value} {E : TypeId} {ys : List α} (h : St B L w) (hat : At (pts b (splice vs (off + i * (Enc.k α + 1)) zs) E) L L') (hi : i ≤ ys.length) (hn : ys.length ≤ cap) (hcm : cap ≤ maxLen) (hvl : off + cap * (Enc.k α + 1) ≤ vs.length)
    (hz : zs.length = (ys.length - i) * (Enc.k α + 1)) (hc : ∀ (j : Nat) (u : Value), (enc ys)[j]? = some u → vs[off + j]? = some u) : St B (OwT E (ys.take i) (.slice (some ⟨b, off, none⟩) i cap) :: L') w := by
  have hti : (ys.take i).length = i := by rw [List.length_take, Nat.min_eq_left hi]
  have e1 : ys.length * (Enc.k α + 1) = i * (Enc.k α + 1) + (ys.length - i) * (Enc.k α + 1) := by rw [← Nat.add_mul]; congr 1; omega
  have e2 : ys.length * (Enc.k α + 1) ≤ cap * (Enc.k α + 1) := Nat.mul_le_mul_right _ hn
  have := h.toOwn (ys := ys.take i) (off := off) (cap := cap) hat (by rw [hti]; omega) hcm (by rw [splice_len]; exact hvl) (fun j u hj => by
    have hlt := enc_get_lt hj
    rw [hti] at hlt
    rw [splice_get _ _ _ _ (by rw [hz]; omega), if_neg (by omega)]
    rw [← enc_take, List.getElem?_take, if_pos hlt] at hj
    exact hc j u hj)
  rw [hti] at this
  exact this
end

section
variable {α : Type} [Enc α]
theorem enc_setF {xs : List α} {i f : Nat} {z : α} {u : Value} (hi : i < xs.length) (hf : f < Enc.k α + 1) (hz : Enc.f z = (Enc.f xs[i]).set f u) (j : Nat) :
    (enc (xs.set i z))[j]? = if j = i * (Enc.k α + 1) + f then some u else (enc xs)[j]? := by
  rw [enc_set xs i z hi]
  have hg := enc_get xs i hi
  have hfl := Enc.len xs[i]
  by_cases h1 : i * (Enc.k α + 1) ≤ j ∧ j < i * (Enc.k α + 1) + (Enc.k α + 1)
  · rw [if_pos h1, hz]
    by_cases h2 : j = i * (Enc.k α + 1) + f
    · rw [if_pos h2, h2, show i * (Enc.k α + 1) + f - i * (Enc.k α + 1) = f by omega, List.getElem?_set_self (by rw [hfl]; exact hf)]
    · rw [if_neg h2, List.getElem?_set_ne (by omega), ← hg, List.getElem?_take, if_pos (by omega), List.getElem?_drop]
      congr 1
      omega
  · rw [if_neg h1, if_neg (by omega)]
variable {P : Program} {a : Act} {w w' : World} {w0 : Bs} {n : Nat} {l : List (Nat × Value)} {L L' : List HP}
  {dst : Option Nat} {R : Value → World → Prop} {ty : TypeId} {pos : String} {af : Array Edge} {g : Option (Nat × Bool)}
theorem g_stF {x y : Operand} {T E : TypeId} {v u : Value} {i f : Nat} {xs : List α} {z : α} {o : Nat} (hk : Kn df n a l) (hS : St w0 L w) (h : ∀ w', St w0 (OwT E (xs.set i z) v :: L') w' → R undef w')
    (hx : ev l x = some (.pointer (some ⟨blk v, o, none⟩)) := by rfl) (ho : o = offs v + i * (Enc.k α + 1) + f) (hy : ev l y = some u := by rfl) (hat : At (OwT E xs v) L L' := by (repeat (first | exact At.here | apply At.there)))
    (hi : i < xs.length) (hf : f < Enc.k α + 1) (hz : Enc.f z = (Enc.f xs[i]).set f u) (hu : u.cells = #[u] := by rfl) (hone : u.oneCell' = true := by rfl) (hsz : szOf P T = some 1) :
    Gives P ⟨dst, .store T x y, ty, pos, af, g⟩ a w R := by
  subst ho
  obtain ⟨F0, _, _, h3, _⟩ := hS.rd hat
  rcases h3 with ⟨_, h0⟩ | ⟨b, off, cap, cur, rfl, _⟩
  · omega
  · obtain ⟨vs, hP, hvl, hn, hcm, hcl, hvs⟩ := hS.ownPts hat
    have hle := mul_lt_of (k := Enc.k α) hi
    have hle2 : xs.length * (Enc.k α + 1) ≤ cap * (Enc.k α + 1) := Nat.mul_le_mul_right _ hn
    obtain ⟨w', hr, hS'⟩ := run_storeCells_own (P := P) [u] (off + i * (Enc.k α + 1) + f) 0 vs w hP At.here (fun x hx => by rw [List.mem_singleton] at hx; rw [hx]; exact hone) (by simp only [List.length_singleton]; omega)
    simp only [Nat.add_zero] at hS'
    refine givesu (w' := w') ?_ (h w' ?_)
    · have hr' : (storeCells ⟨b, off + i * (Enc.k α + 1) + f, none⟩ [u] 0).run P w = .ok () w' := hr
      simp only [blk, offs] at hx
      simp [execOp, hk.eval hx, hk.eval hy, Instr.storeAt, Instr.sureAddr, storeVar, szOf_run hsz, hu, hr']
    · have hq := hS'.toOwn (ys := xs.set i z) (off := off) (cap := cap) At.here (by rw [List.length_set]; exact hn) hcm (by rw [splice_len]; exact hvl) (fun j u' hj => by
        rw [enc_setF hi hf hz] at hj
        simp only [splice]
        by_cases h1 : j = i * (Enc.k α + 1) + f
        · rw [if_pos h1] at hj
          injection hj with hj
          subst hj
          rw [show off + j = off + i * (Enc.k α + 1) + f by omega, List.getElem?_set_self (by omega)]
        · rw [if_neg h1] at hj
          rw [List.getElem?_set_ne (by omega)]
          exact hvs j u' hj)
      rw [List.length_set] at hq
      exact hq
end
end Go.Proofs.YthodcfdgahfniaaGreat
namespace Go.Proofs.YthodcfdgahfniaaGreat
variable {df : List Deferred} {rr : Option Nat}
open Go.RowKit

def obj (b : Nat) (o : Obj) : HP where
  holds F w := F b ∧ (∀ c, F c → c = b) ∧ w.heap[b]? = some o
  stable := fun F w w' ⟨h1, h2, h3⟩ h => ⟨h1, h2, by rw [h b h1]; exact h3⟩
  dom := fun F w c ⟨h1, h2, h3⟩ hc => by
    rw [h2 c hc]
    rcases Nat.lt_or_ge b w.heap.size with h' | h'
    · exact h'
    · rw [Array.getElem?_eq_none h'] at h3; cases h3

def lrec (fn : FuncId) (tmps : Array Value) (ps : Array Tmp) (assign body : Code) (D : Nat) (s : LoopState) (pe : Option Code) : Obj :=
  .loop { state := s, pending := pe, fn, tmps, params := ps, assign, body, defers := D }

def BegK (P : Program) (b : Nat) (body : Code) (R : Ending → World → Prop) (a : Act) (w : World) : Prop :=
  ∃ w₂, (Instr.beginRound b).run P w = .ok () w₂ ∧ body.wpIn (FR (some b)) 0 P (roundPost P b R) a w₂

section
variable {P : Program} {Q : Exit → Act → World → Prop} {a : Act} {w w' : World} {w0 : Bs} {n : Nat} {l l0 : List (Nat × Value)} {L L' : List HP}
  {dst : Option Nat} {R : Value → World → Prop} {ty : TypeId} {pos : String} {af : Array Edge} {g : Option (Nat × Bool)}
  {fn : FuncId} {tmps : Array Value} {ps : Array Tmp} {assign body : Code} {D b : Nat}

def mk_ (D : Nat) : List Deferred := [{ target := .collected D, args := #[] }]

def DoneM (P : Program) (fn : Func) (R : Value → World → Prop) : Exit → Act → World → Prop := bodyPostM Fence.wide 0 P fn (Ret R)

theorem done0 {fn : Func} (hk : Kn [] n a l) (hr : fn.results = #[] := by rfl) (h : R (.tuple #[]) w) : Done P fn R .ret a w :=
  bodyPost_ret (results_none hr _ _ _) hk.defers ⟨_, rfl, h⟩
theorem done0n {fn : Func} (hk : Kn [] n a l) (hr : fn.results = #[] := by rfl) (h : R (.tuple #[]) w) : Done P fn R .normal a w :=
  bodyPost_end (results_none hr _ _ _) hk.defers ⟨_, rfl, h⟩
theorem g_eqN {x : Operand} {t t' E m c n' c' : Nat} {ao : Option Addr} (hk : Kn df n a l) (h : R (.bool ao.isNone) w) (hx : ev l x = some (.slice ao m c) := by rfl) (hT : elOf P t = some E) :
    Gives P ⟨dst, .binOp .eql t x (.const (.slice none n' c')) t', ty, pos, af, g⟩ a w R :=
  givesv (v := .bool ao.isNone) (by
    have h1 := Lib.run_eql_slice_nil (P := P) w t E ao m c n' c' (elOf_und hT)
    have h2 : a.eval (.const (.slice none n' c')) = .slice none n' c' := rfl
    simp [execOp, hk.eval hx, h2, eqGuard, Sem.run_bind, h1]) h
end
end Go.Proofs.YthodcfdgahfniaaGreat
namespace Go.Proofs.YthodcfdgahfniaaGreat
open Go.RowKit
set_option maxRecDepth 100000
attribute [local irreducible] Go.Code.wpIn Go.wpListIn Go.Calls Gives Go.Exit.then Go.Exit.inBlock Done ObxE

def cutF (s : ByteArray) (n : Nat) : ByteArray := if n < s.size then s.extract 0 n else s

end Go.Proofs.YthodcfdgahfniaaGreat
namespace Go.Proofs.YthodcfdgahfniaaGreat
open Go.RowKit
set_option maxRecDepth 100000
attribute [local irreducible] Go.Code.wpIn Go.wpListIn Go.Calls Gives Go.Exit.then Go.Exit.inBlock Done ObxE

def in32 (x : Int) : Prop := -2147483648 ≤ x ∧ x ≤ 2147483647
instance (x : Int) : Decidable (in32 x) := by unfold in32; infer_instance
def mayL (k m x y : Int) : Bool := decide (0 ≤ k ∧ k ≤ 6 ∧ 0 ≤ m ∧ m ≤ 2 ∧ (m = 0 ∨ k = 0) ∧ ((m = 1 ∧ (-2147483648 ≤ x ∧ x ≤ 2147483647) ∧ (-2147483648 ≤ y ∧ y ≤ 2147483647)) ∨ (m ≠ 1 ∧ x = 0 ∧ y = 0)))
def ghoL (k : Int) : Bool := decide (4 ≤ k ∧ k ≤ 6)
def entL (k : Int) : Bool := decide (k = 2 ∨ k = 3)
def leaL (k : Int) : Bool := decide (k = 5 ∨ k = 6)
def mkL (k : Int) : List ByteArray := if k = 1 then [⟨#[116, 45, 119, 97, 105, 116]⟩] else if k = 2 then [⟨#[116, 45, 101, 110, 116, 101, 114, 45, 102, 114, 111, 109]⟩, ⟨#[116, 45, 101, 110, 116, 101, 114, 45, 97, 99, 116, 105, 118, 101]⟩] else if k = 3 then [⟨#[116, 45, 101, 110, 116, 101, 114, 45, 97, 99, 116, 105, 118, 101]⟩, ⟨#[116, 45, 101, 110, 116, 101, 114, 45, 116, 111]⟩] else if k = 4 then [⟨#[116, 45, 104, 111, 108, 100]⟩] else if k = 5 then [⟨#[116, 45, 108, 101, 97, 118, 101, 45, 102, 114, 111, 109]⟩, ⟨#[116, 45, 108, 101, 97, 118, 101, 45, 97, 99, 116, 105, 118, 101]⟩] else if k = 6 then [⟨#[116, 45, 108, 101, 97, 118, 101, 45, 97, 99, 116, 105, 118, 101]⟩, ⟨#[116, 45, 108, 101, 97, 118, 101, 45, 116, 111]⟩] else []
def clsL (k m : Int) : List ByteArray := mkL k ++ (if m = 0 then [] else [⟨#[116, 45, 109, 111, 118, 101]⟩])

theorem sat_any (p : Int) (w0 : World) : Calls Tryz.prog 61 #[.int .i64 p] w0 (Ret fun v w => v = .int .i64 (max (-2147483648) (min p 2147483647)) ∧ St w0 [] w) := by
  refine enter Tryz.func61 rfl Tryz.ntmps61 rfl (fun a hk => ?_); have hS := St.refl w0
  (repeat' (first | (show wpListIn _ _ _ _ _ (_ :: _) _ _; first | (refine wx1 ?_; clear hk a; intro a hk) | (refine wx2 ?_ ?_ <;> (intro hp; clear hk a; intro a hk)) | (refine wx3 ?_; clear hk hS a; intro w b hS a hk) | (refine wx4 ?_; clear hk hS a; intro w hS a hk) | (refine wx5 ?_; clear hk hS a; intro w v hS a hk) | fail) | refine wx0 ?_ | (refine s_end hk ?_; clear hk a; intro a hk) | fail))
  exact done1 hk (h := ⟨rfl, hS.nil⟩)
set_option maxHeartbeats 1000000 in
theorem may_any (k m x y : Int) (w0 : World) : Calls Tryz.prog 37 #[.agg #[.int .i64 k, .int .i64 m, .int .i64 x, .int .i64 y]] w0 (Ret fun v w => v = .bool (mayL k m x y) ∧ St w0 [] w) := by
  refine enter Tryz.func37 rfl Tryz.ntmps37 rfl (fun a hk => ?_); have hS := St.refl w0
  (repeat' (first | (show wpListIn _ _ _ _ _ (_ :: _) _ _; first | (refine wx1 ?_; clear hk a; intro a hk) | (refine wx2 ?_ ?_ <;> (intro hp; clear hk a; intro a hk)) | (refine wx3 ?_; clear hk hS a; intro w b hS a hk) | (refine wx4 ?_; clear hk hS a; intro w hS a hk) | (refine wx5 ?_; clear hk hS a; intro w v hS a hk) | fail) | refine wx0 ?_ | (refine s_end hk ?_; clear hk a; intro a hk) | fail))
  all_goals try exact done1 hk (h := ⟨by unfold mayL; first | rw [decide_eq_true (by omega)] | rw [decide_eq_false (by omega)], hS.nil⟩)
  all_goals (
    refine wp_drawn 15 mixed (by kernel_rfl) hk hS ?_; clear hk hS a
    (repeat' (first | (show ObxE _ _ _ _ _ _ _ _ _ (_ :: _) _ _ _; first | refine ox1 ?_ | (refine ox2 ?_ ?_ <;> intro hp) | fail) | fail)))
  all_goals (
    refine' obe_val (fun us a w hk hd hS => ?_) ?_; rotate_left; focus (have hk := Kn.vw hk (by repeat (first | exact VW.nil | apply VW.val rfl | apply VW.base rfl rfl | apply VW.res rfl | apply VW.upd rfl | apply VW.cpy rfl | apply VW.dep rfl | apply VW.fn rfl | apply VW.lnd rfl | apply VW.tak rfl)); exact g_callO hk (hf := by kernel_rfl) (hc := sat_any x _) (h := fun _ _ h => h))
    (repeat' (first | (show ObxE _ _ _ _ _ _ _ _ _ (_ :: _) _ _ _; first | refine ox1 ?_ | (refine ox2 ?_ ?_ <;> intro hp) | fail) | fail)))
  · refine' obe_val (fun us a w hk hd hS => ?_) ?_; rotate_left; focus (have hk := Kn.vw hk (by repeat (first | exact VW.nil | apply VW.val rfl | apply VW.base rfl rfl | apply VW.res rfl | apply VW.upd rfl | apply VW.cpy rfl | apply VW.dep rfl | apply VW.fn rfl | apply VW.lnd rfl | apply VW.tak rfl)); exact g_callO hk (hf := by kernel_rfl) (hc := sat_any y _) (h := fun _ _ h => h))
    (repeat' (first | (show ObxE _ _ _ _ _ _ _ _ _ (_ :: _) _ _ _; first | refine ox1 ?_ | (refine ox2 ?_ ?_ <;> intro hp) | fail) | fail))
    all_goals (
      refine obe_nil ⟨rfl, ?_⟩; intro us a w hk hS
      (repeat' (first | (show wpListIn _ _ _ _ _ (_ :: _) _ _; first | (refine wx1 ?_; clear hk a; intro a hk) | (refine wx2 ?_ ?_ <;> (intro hp; clear hk a; intro a hk)) | (refine wx3 ?_; clear hk hS a; intro w b hS a hk) | (refine wx4 ?_; clear hk hS a; intro w hS a hk) | (refine wx5 ?_; clear hk hS a; intro w v hS a hk) | fail) | refine wx0 ?_ | (refine s_end hk ?_; clear hk a; intro a hk) | fail))
      exact done1 hk (h := ⟨by unfold mayL; first | (rw [decide_eq_true (by omega)]; rfl) | (rw [decide_eq_false (by omega)]; rfl), hS.nil⟩))
  · refine obe_nil ⟨rfl, ?_⟩; intro us a w hk hS
    (repeat' (first | (show wpListIn _ _ _ _ _ (_ :: _) _ _; first | (refine wx1 ?_; clear hk a; intro a hk) | (refine wx2 ?_ ?_ <;> (intro hp; clear hk a; intro a hk)) | (refine wx3 ?_; clear hk hS a; intro w b hS a hk) | (refine wx4 ?_; clear hk hS a; intro w hS a hk) | (refine wx5 ?_; clear hk hS a; intro w v hS a hk) | fail) | refine wx0 ?_ | (refine s_end hk ?_; clear hk a; intro a hk) | fail))
    exact done1 hk (h := ⟨by unfold mayL; first | (rw [decide_eq_true (by omega)]; rfl) | (rw [decide_eq_false (by omega)]; rfl), hS.nil⟩)
theorem entering_any (k m x y : Int) (w0 : World) : Calls Tryz.prog 72 #[.agg #[.int .i64 k, .int .i64 m, .int .i64 x, .int .i64 y]] w0 (Ret fun v w => v = .bool (entL k) ∧ St w0 [] w) := by
  refine enter Tryz.func72 rfl Tryz.ntmps72 rfl (fun a hk => ?_); have hS := St.refl w0
  (repeat' (first | (show wpListIn _ _ _ _ _ (_ :: _) _ _; first | (refine wx1 ?_; clear hk a; intro a hk) | (refine wx2 ?_ ?_ <;> (intro hp; clear hk a; intro a hk)) | (refine wx3 ?_; clear hk hS a; intro w b hS a hk) | (refine wx4 ?_; clear hk hS a; intro w hS a hk) | (refine wx5 ?_; clear hk hS a; intro w v hS a hk) | fail) | refine wx0 ?_ | (refine s_end hk ?_; clear hk a; intro a hk) | fail))
  all_goals exact done1 hk (h := ⟨by unfold entL; first | rw [decide_eq_true (by omega)] | rw [decide_eq_false (by omega)], hS.nil⟩)
theorem leaving_any (k m x y : Int) (w0 : World) : Calls Tryz.prog 59 #[.agg #[.int .i64 k, .int .i64 m, .int .i64 x, .int .i64 y]] w0 (Ret fun v w => v = .bool (leaL k) ∧ St w0 [] w) := by
  refine enter Tryz.func59 rfl Tryz.ntmps59 rfl (fun a hk => ?_); have hS := St.refl w0
  (repeat' (first | (show wpListIn _ _ _ _ _ (_ :: _) _ _; first | (refine wx1 ?_; clear hk a; intro a hk) | (refine wx2 ?_ ?_ <;> (intro hp; clear hk a; intro a hk)) | (refine wx3 ?_; clear hk hS a; intro w b hS a hk) | (refine wx4 ?_; clear hk hS a; intro w hS a hk) | (refine wx5 ?_; clear hk hS a; intro w v hS a hk) | fail) | refine wx0 ?_ | (refine s_end hk ?_; clear hk a; intro a hk) | fail))
  all_goals exact done1 hk (h := ⟨by unfold leaL; first | rw [decide_eq_true (by omega)] | rw [decide_eq_false (by omega)], hS.nil⟩)
theorem ghost_any (k m x y : Int) (w0 : World) : Calls Tryz.prog 47 #[.agg #[.int .i64 k, .int .i64 m, .int .i64 x, .int .i64 y]] w0 (Ret fun v w => v = .bool (ghoL k) ∧ St w0 [] w) := by
  refine enter Tryz.func47 rfl Tryz.ntmps47 rfl (fun a hk => ?_); have hS := St.refl w0
  by_cases h4 : k = 4
  · (repeat' (first | (show wpListIn _ _ _ _ _ (_ :: _) _ _; first | (refine wx1 ?_; clear hk a; intro a hk) | (refine wx2 ?_ ?_ <;> (intro hp; clear hk a; intro a hk)) | (refine wx3 ?_; clear hk hS a; intro w b hS a hk) | (refine wx4 ?_; clear hk hS a; intro w hS a hk) | (refine wx5 ?_; clear hk hS a; intro w v hS a hk) | fail) | refine wx0 ?_ | (refine s_end hk ?_; clear hk a; intro a hk) | fail))
    exact done1 hk (h := ⟨by unfold ghoL; rw [decide_eq_true (by omega)], hS.nil⟩)
  · (repeat' (first | (show wpListIn _ _ _ _ _ (_ :: _) _ _; first | (refine wx1 ?_; clear hk a; intro a hk) | (refine wx2 ?_ ?_ <;> (intro hp; clear hk a; intro a hk)) | (refine wx3 ?_; clear hk hS a; intro w b hS a hk) | (refine wx4 ?_; clear hk hS a; intro w hS a hk) | (refine wx5 ?_; clear hk hS a; intro w v hS a hk) | fail) | refine wx0 ?_ | (refine s_end hk ?_; clear hk a; intro a hk) | fail))
    refine sg hk (g_callO hk (hf := by kernel_rfl) (hc := leaving_any k m x y _) (h := ?_)); clear hk a; rintro _ w ⟨rfl, hS1⟩ a hk; replace hS := hS.call0 hS1; clear hS1
    (repeat' (first | (show wpListIn _ _ _ _ _ (_ :: _) _ _; first | (refine wx1 ?_; clear hk a; intro a hk) | (refine wx2 ?_ ?_ <;> (intro hp; clear hk a; intro a hk)) | (refine wx3 ?_; clear hk hS a; intro w b hS a hk) | (refine wx4 ?_; clear hk hS a; intro w hS a hk) | (refine wx5 ?_; clear hk hS a; intro w v hS a hk) | fail) | refine wx0 ?_ | (refine s_end hk ?_; clear hk a; intro a hk) | fail))
    refine done1 hk (h := ⟨?_, hS.nil⟩)
    unfold leaL ghoL
    by_cases h5 : k = 5 ∨ k = 6
    · rw [decide_eq_true h5, decide_eq_true (by omega)]
    · rw [decide_eq_false h5, decide_eq_false (by omega)]

set_option maxHeartbeats 4000000 in
theorem marks_any (k m x y : Int) (w0 : World) : Calls Tryz.prog 68 #[.agg #[.int .i64 k, .int .i64 m, .int .i64 x, .int .i64 y]] w0 (Ret fun v w => St w0 [OwT 9 (mkL k) v] w) := by
  refine enter Tryz.func68 rfl Tryz.ntmps68 rfl (fun a hk => ?_); have hS := St.refl w0
  by_cases h1 : k = 1
  · have hm : mkL k = [⟨#[116, 45, 119, 97, 105, 116]⟩] := by subst h1; rfl
    rw [hm]
    (repeat' (first | (show wpListIn _ _ _ _ _ (_ :: _) _ _; first | (refine wx1 ?_; clear hk a; intro a hk) | (refine wx2 ?_ ?_ <;> (intro hp; clear hk a; intro a hk)) | (refine wx3 ?_; clear hk hS a; intro w b hS a hk) | (refine wx4 ?_; clear hk hS a; intro w hS a hk) | (refine wx5 ?_; clear hk hS a; intro w v hS a hk) | fail) | refine wx0 ?_ | (refine s_end hk ?_; clear hk a; intro a hk) | fail))
    exact done1 hk (h := hS.sb)
  by_cases h2 : k = 2
  · have hm : mkL k = [⟨#[116, 45, 101, 110, 116, 101, 114, 45, 102, 114, 111, 109]⟩, ⟨#[116, 45, 101, 110, 116, 101, 114, 45, 97, 99, 116, 105, 118, 101]⟩] := by subst h2; rfl
    rw [hm]
    (repeat' (first | (show wpListIn _ _ _ _ _ (_ :: _) _ _; first | (refine wx1 ?_; clear hk a; intro a hk) | (refine wx2 ?_ ?_ <;> (intro hp; clear hk a; intro a hk)) | (refine wx3 ?_; clear hk hS a; intro w b hS a hk) | (refine wx4 ?_; clear hk hS a; intro w hS a hk) | (refine wx5 ?_; clear hk hS a; intro w v hS a hk) | fail) | refine wx0 ?_ | (refine s_end hk ?_; clear hk a; intro a hk) | fail))
    refine sg hk (g_bsT (xs := ([⟨#[116, 45, 101, 110, 116, 101, 114, 45, 102, 114, 111, 109]⟩, ⟨#[116, 45, 101, 110, 116, 101, 114, 45, 97, 99, 116, 105, 118, 101]⟩] : List ByteArray)) (m := 1) hk hS ?_ (hT := eT rfl) (hE := zT rfl) (hz := oT rfl)); clear hk hS a; intro w vn hS a hk
    (repeat' (first | (show wpListIn _ _ _ _ _ (_ :: _) _ _; first | (refine wx1 ?_; clear hk a; intro a hk) | (refine wx2 ?_ ?_ <;> (intro hp; clear hk a; intro a hk)) | (refine wx3 ?_; clear hk hS a; intro w b hS a hk) | (refine wx4 ?_; clear hk hS a; intro w hS a hk) | (refine wx5 ?_; clear hk hS a; intro w v hS a hk) | fail) | refine wx0 ?_ | (refine s_end hk ?_; clear hk a; intro a hk) | fail))
    exact done1 hk (h := hS.sb)
  by_cases h3 : k = 3
  · have hm : mkL k = [⟨#[116, 45, 101, 110, 116, 101, 114, 45, 97, 99, 116, 105, 118, 101]⟩, ⟨#[116, 45, 101, 110, 116, 101, 114, 45, 116, 111]⟩] := by subst h3; rfl
    rw [hm]
    (repeat' (first | (show wpListIn _ _ _ _ _ (_ :: _) _ _; first | (refine wx1 ?_; clear hk a; intro a hk) | (refine wx2 ?_ ?_ <;> (intro hp; clear hk a; intro a hk)) | (refine wx3 ?_; clear hk hS a; intro w b hS a hk) | (refine wx4 ?_; clear hk hS a; intro w hS a hk) | (refine wx5 ?_; clear hk hS a; intro w v hS a hk) | fail) | refine wx0 ?_ | (refine s_end hk ?_; clear hk a; intro a hk) | fail))
    refine sg hk (g_bsT (xs := ([⟨#[116, 45, 101, 110, 116, 101, 114, 45, 97, 99, 116, 105, 118, 101]⟩, ⟨#[116, 45, 101, 110, 116, 101, 114, 45, 116, 111]⟩] : List ByteArray)) (m := 1) hk hS ?_ (hT := eT rfl) (hE := zT rfl) (hz := oT rfl)); clear hk hS a; intro w vn hS a hk
    (repeat' (first | (show wpListIn _ _ _ _ _ (_ :: _) _ _; first | (refine wx1 ?_; clear hk a; intro a hk) | (refine wx2 ?_ ?_ <;> (intro hp; clear hk a; intro a hk)) | (refine wx3 ?_; clear hk hS a; intro w b hS a hk) | (refine wx4 ?_; clear hk hS a; intro w hS a hk) | (refine wx5 ?_; clear hk hS a; intro w v hS a hk) | fail) | refine wx0 ?_ | (refine s_end hk ?_; clear hk a; intro a hk) | fail))
    exact done1 hk (h := hS.sb)
  by_cases h4 : k = 4
  · have hm : mkL k = [⟨#[116, 45, 104, 111, 108, 100]⟩] := by subst h4; rfl
    rw [hm]
    (repeat' (first | (show wpListIn _ _ _ _ _ (_ :: _) _ _; first | (refine wx1 ?_; clear hk a; intro a hk) | (refine wx2 ?_ ?_ <;> (intro hp; clear hk a; intro a hk)) | (refine wx3 ?_; clear hk hS a; intro w b hS a hk) | (refine wx4 ?_; clear hk hS a; intro w hS a hk) | (refine wx5 ?_; clear hk hS a; intro w v hS a hk) | fail) | refine wx0 ?_ | (refine s_end hk ?_; clear hk a; intro a hk) | fail))
    exact done1 hk (h := hS.sb)
  by_cases h5 : k = 5
  · have hm : mkL k = [⟨#[116, 45, 108, 101, 97, 118, 101, 45, 102, 114, 111, 109]⟩, ⟨#[116, 45, 108, 101, 97, 118, 101, 45, 97, 99, 116, 105, 118, 101]⟩] := by subst h5; rfl
    rw [hm]
    (repeat' (first | (show wpListIn _ _ _ _ _ (_ :: _) _ _; first | (refine wx1 ?_; clear hk a; intro a hk) | (refine wx2 ?_ ?_ <;> (intro hp; clear hk a; intro a hk)) | (refine wx3 ?_; clear hk hS a; intro w b hS a hk) | (refine wx4 ?_; clear hk hS a; intro w hS a hk) | (refine wx5 ?_; clear hk hS a; intro w v hS a hk) | fail) | refine wx0 ?_ | (refine s_end hk ?_; clear hk a; intro a hk) | fail))
    refine sg hk (g_bsT (xs := ([⟨#[116, 45, 108, 101, 97, 118, 101, 45, 102, 114, 111, 109]⟩, ⟨#[116, 45, 108, 101, 97, 118, 101, 45, 97, 99, 116, 105, 118, 101]⟩] : List ByteArray)) (m := 1) hk hS ?_ (hT := eT rfl) (hE := zT rfl) (hz := oT rfl)); clear hk hS a; intro w vn hS a hk
    (repeat' (first | (show wpListIn _ _ _ _ _ (_ :: _) _ _; first | (refine wx1 ?_; clear hk a; intro a hk) | (refine wx2 ?_ ?_ <;> (intro hp; clear hk a; intro a hk)) | (refine wx3 ?_; clear hk hS a; intro w b hS a hk) | (refine wx4 ?_; clear hk hS a; intro w hS a hk) | (refine wx5 ?_; clear hk hS a; intro w v hS a hk) | fail) | refine wx0 ?_ | (refine s_end hk ?_; clear hk a; intro a hk) | fail))
    exact done1 hk (h := hS.sb)
  by_cases h6 : k = 6
  · have hm : mkL k = [⟨#[116, 45, 108, 101, 97, 118, 101, 45, 97, 99, 116, 105, 118, 101]⟩, ⟨#[116, 45, 108, 101, 97, 118, 101, 45, 116, 111]⟩] := by subst h6; rfl
    rw [hm]
    (repeat' (first | (show wpListIn _ _ _ _ _ (_ :: _) _ _; first | (refine wx1 ?_; clear hk a; intro a hk) | (refine wx2 ?_ ?_ <;> (intro hp; clear hk a; intro a hk)) | (refine wx3 ?_; clear hk hS a; intro w b hS a hk) | (refine wx4 ?_; clear hk hS a; intro w hS a hk) | (refine wx5 ?_; clear hk hS a; intro w v hS a hk) | fail) | refine wx0 ?_ | (refine s_end hk ?_; clear hk a; intro a hk) | fail))
    refine sg hk (g_bsT (xs := ([⟨#[116, 45, 108, 101, 97, 118, 101, 45, 97, 99, 116, 105, 118, 101]⟩, ⟨#[116, 45, 108, 101, 97, 118, 101, 45, 116, 111]⟩] : List ByteArray)) (m := 1) hk hS ?_ (hT := eT rfl) (hE := zT rfl) (hz := oT rfl)); clear hk hS a; intro w vn hS a hk
    (repeat' (first | (show wpListIn _ _ _ _ _ (_ :: _) _ _; first | (refine wx1 ?_; clear hk a; intro a hk) | (refine wx2 ?_ ?_ <;> (intro hp; clear hk a; intro a hk)) | (refine wx3 ?_; clear hk hS a; intro w b hS a hk) | (refine wx4 ?_; clear hk hS a; intro w hS a hk) | (refine wx5 ?_; clear hk hS a; intro w v hS a hk) | fail) | refine wx0 ?_ | (refine s_end hk ?_; clear hk a; intro a hk) | fail))
    exact done1 hk (h := hS.sb)
  · have hm : mkL k = [] := by unfold mkL; rw [if_neg h1, if_neg h2, if_neg h3, if_neg h4, if_neg h5, if_neg h6]
    rw [hm]
    (repeat' (first | (show wpListIn _ _ _ _ _ (_ :: _) _ _; first | (refine wx1 ?_; clear hk a; intro a hk) | (refine wx2 ?_ ?_ <;> (intro hp; clear hk a; intro a hk)) | (refine wx3 ?_; clear hk hS a; intro w b hS a hk) | (refine wx4 ?_; clear hk hS a; intro w hS a hk) | (refine wx5 ?_; clear hk hS a; intro w v hS a hk) | fail) | refine wx0 ?_ | (refine s_end hk ?_; clear hk a; intro a hk) | fail))
    exact done1 hk (h := hS.nil.nilT 9 ByteArray)
theorem mkL_len (k : Int) : (mkL k).length ≤ 2 := by
  unfold mkL
  repeat' split
  all_goals simp
theorem classes_any (k m x y : Int) (w0 : World) : Calls Tryz.prog 44 #[.agg #[.int .i64 k, .int .i64 m, .int .i64 x, .int .i64 y]] w0 (Ret fun v w => St w0 [OwT 9 (clsL k m) v] w) := by
  have hml := mkL_len k
  refine enter Tryz.func44 rfl Tryz.ntmps44 rfl (fun a hk => ?_); have hS := St.refl w0
  (repeat' (first | (show wpListIn _ _ _ _ _ (_ :: _) _ _; first | (refine wx1 ?_; clear hk a; intro a hk) | (refine wx2 ?_ ?_ <;> (intro hp; clear hk a; intro a hk)) | (refine wx3 ?_; clear hk hS a; intro w b hS a hk) | (refine wx4 ?_; clear hk hS a; intro w hS a hk) | (refine wx5 ?_; clear hk hS a; intro w v hS a hk) | fail) | refine wx0 ?_ | (refine s_end hk ?_; clear hk a; intro a hk) | fail))
  refine sg hk (g_callO hk (hf := by kernel_rfl) (hc := marks_any k m x y _) (h := ?_)); clear hk a; rintro vm w hS1 a hk; replace hS := hS.call hS1; clear hS1
  rw [List.cons_append, List.nil_append] at hS
  by_cases h0 : m = 0
  · have hc : clsL k m = mkL k := by unfold clsL; rw [if_pos h0, List.append_nil]
    rw [hc]
    (repeat' (first | (show wpListIn _ _ _ _ _ (_ :: _) _ _; first | (refine wx1 ?_; clear hk a; intro a hk) | (refine wx2 ?_ ?_ <;> (intro hp; clear hk a; intro a hk)) | (refine wx3 ?_; clear hk hS a; intro w b hS a hk) | (refine wx4 ?_; clear hk hS a; intro w hS a hk) | (refine wx5 ?_; clear hk hS a; intro w v hS a hk) | fail) | refine wx0 ?_ | (refine s_end hk ?_; clear hk a; intro a hk) | fail))
    exact done1 hk (h := hS.sb)
  · have hc : clsL k m = mkL k ++ [⟨#[116, 45, 109, 111, 118, 101]⟩] := by unfold clsL; rw [if_neg h0]
    rw [hc]
    (repeat' (first | (show wpListIn _ _ _ _ _ (_ :: _) _ _; first | (refine wx1 ?_; clear hk a; intro a hk) | (refine wx2 ?_ ?_ <;> (intro hp; clear hk a; intro a hk)) | (refine wx3 ?_; clear hk hS a; intro w b hS a hk) | (refine wx4 ?_; clear hk hS a; intro w hS a hk) | (refine wx5 ?_; clear hk hS a; intro w v hS a hk) | fail) | refine wx0 ?_ | (refine s_end hk ?_; clear hk a; intro a hk) | fail))
    exact done1 hk (h := hS.sb)
end Go.Proofs.YthodcfdgahfniaaGreat
namespace Go.Proofs.YthodcfdgahfniaaGreat
open Go.RowKit
set_option maxRecDepth 100000
attribute [local irreducible] Go.Code.wpIn Go.wpListIn Go.Calls Gives Go.Exit.then Go.Exit.inBlock Done ObxE

abbrev stV (s : PS) : Value := .agg #[.int .i64 s.k, .int .i64 s.m, .int .i64 s.x, .int .i64 s.y, .int .i64 s.d, .int .i64 s.e]
abbrev ouV (o : PO) (h : Hd) : Value := .agg #[.int .i64 o.s.k, .int .i64 o.s.m, .int .i64 o.s.x, .int .i64 o.s.y, .int .i64 o.s.d, .int .i64 o.s.e, h.v, .int .i64 o.j, .int .i64 o.mj, .bool o.en, .bool o.me, .bool o.go]
def PhR (B : Bs) (L : List HP) (o : PO) (v : Value) (w : World) : Prop := ∃ h : Hd, v = ouV o h ∧ St B (OwT 3 o.hk h.v :: L) w
abbrev noH : Hd := ⟨none, 0, 0⟩
theorem pout_any (s : PS) (w0 : World) : Calls Tryz.prog 19 #[stV s] w0 (Ret fun v w => v = ouV (outP s) noH ∧ St w0 [] w) := by
  obtain ⟨k, m, x, y, d, e⟩ := s
  show Calls Tryz.prog 19 #[.agg #[.int .i64 k, .int .i64 m, .int .i64 x, .int .i64 y, .int .i64 d, .int .i64 e]] w0 _
  refine enter Tryz.func19 rfl Tryz.ntmps19 rfl (fun a hk => ?_); have hS := St.refl w0
  (repeat' (first | (show wpListIn _ _ _ _ _ (_ :: _) _ _; first | (refine wx1 ?_; clear hk a; intro a hk) | (refine wx2 ?_ ?_ <;> (intro hp; clear hk a; intro a hk)) | (refine wx3 ?_; clear hk hS a; intro w b hS a hk) | (refine wx4 ?_; clear hk hS a; intro w hS a hk) | (refine wx5 ?_; clear hk hS a; intro w v hS a hk) | fail) | refine wx0 ?_ | (refine s_end hk ?_; clear hk a; intro a hk) | fail))
  refine done1R hk rfl (.str hS (hT := aT rfl) (hs := zT rfl)) (h := ?_)
  exact ⟨rfl, hS.nil⟩
theorem unmove_any (o : PO) (h : Hd) (w0 : World) : Calls Tryz.prog 50 #[ouV o h] w0 (Ret fun v w => v = ouV (unmvP o) h ∧ St w0 [] w) := by
  obtain ⟨⟨k, m, x, y, d, e⟩, l, j, mj, en, me, go⟩ := o
  obtain ⟨pa, pn, pc⟩ := h
  show Calls Tryz.prog 50 #[.agg #[.int .i64 k, .int .i64 m, .int .i64 x, .int .i64 y, .int .i64 d, .int .i64 e, .slice pa pn pc, .int .i64 j, .int .i64 mj, .bool en, .bool me, .bool go]] w0 _
  by_cases hm : m = 0
  · subst hm
    refine enter Tryz.func50 rfl Tryz.ntmps50 rfl (fun a hk => ?_); have hS := St.refl w0
    (repeat' (first | (show wpListIn _ _ _ _ _ (_ :: _) _ _; first | (refine wx1 ?_; clear hk a; intro a hk) | (refine wx2 ?_ ?_ <;> (intro hp; clear hk a; intro a hk)) | (refine wx3 ?_; clear hk hS a; intro w b hS a hk) | (refine wx4 ?_; clear hk hS a; intro w hS a hk) | (refine wx5 ?_; clear hk hS a; intro w v hS a hk) | fail) | refine wx0 ?_ | (refine s_end hk ?_; clear hk a; intro a hk) | fail))
    refine done1R hk rfl (.str hS (hT := aT rfl) (hs := zT rfl)) (h := ?_)
    exact ⟨rfl, hS.nil⟩
  · rw [show unmvP ⟨⟨k, m, x, y, d, e⟩, l, j, mj, en, me, go⟩ = ⟨⟨k, 0, 0, 0, d, 0⟩, l, j, mj, en, true, go⟩ from if_neg hm]
    refine enter Tryz.func50 rfl Tryz.ntmps50 rfl (fun a hk => ?_); have hS := St.refl w0
    (repeat' (first | (show wpListIn _ _ _ _ _ (_ :: _) _ _; first | (refine wx1 ?_; clear hk a; intro a hk) | (refine wx2 ?_ ?_ <;> (intro hp; clear hk a; intro a hk)) | (refine wx3 ?_; clear hk hS a; intro w b hS a hk) | (refine wx4 ?_; clear hk hS a; intro w hS a hk) | (refine wx5 ?_; clear hk hS a; intro w v hS a hk) | fail) | refine wx0 ?_ | (refine s_end hk ?_; clear hk a; intro a hk) | fail))
    refine done1R hk rfl (.str hS (hT := aT rfl) (hs := zT rfl)) (h := ?_)
    exact ⟨rfl, hS.nil⟩
theorem to_any (o : PO) (h : Hd) (k' d' : Int) (w0 : World) : Calls Tryz.prog 20 #[ouV o h, .int .i64 k', .int .i64 d'] w0 (Ret fun v w => v = ouV (toP o k' d') h ∧ St w0 [] w) := by
  obtain ⟨⟨k, m, x, y, d, e⟩, l, j, mj, en, me, go⟩ := o
  obtain ⟨pa, pn, pc⟩ := h
  show Calls Tryz.prog 20 #[.agg #[.int .i64 k, .int .i64 m, .int .i64 x, .int .i64 y, .int .i64 d, .int .i64 e, .slice pa pn pc, .int .i64 j, .int .i64 mj, .bool en, .bool me, .bool go], .int .i64 k', .int .i64 d'] w0 _
  refine enter Tryz.func20 rfl Tryz.ntmps20 rfl (fun a hk => ?_); have hS := St.refl w0
  (repeat' (first | (show wpListIn _ _ _ _ _ (_ :: _) _ _; first | (refine wx1 ?_; clear hk a; intro a hk) | (refine wx2 ?_ ?_ <;> (intro hp; clear hk a; intro a hk)) | (refine wx3 ?_; clear hk hS a; intro w b hS a hk) | (refine wx4 ?_; clear hk hS a; intro w hS a hk) | (refine wx5 ?_; clear hk hS a; intro w v hS a hk) | fail) | refine wx0 ?_ | (refine s_end hk ?_; clear hk a; intro a hk) | fail))
  refine done1R hk rfl (.str hS (hT := aT rfl) (hs := zT rfl)) (h := ?_)
  exact ⟨rfl, hS.nil⟩
theorem over_any (o : PO) (h : Hd) (k' : Int) (w0 : World) : Calls Tryz.prog 60 #[ouV o h, .int .i64 k'] w0 (Ret fun v w => v = ouV (overP o k') h ∧ St w0 [] w) := by
  obtain ⟨⟨k, m, x, y, d, e⟩, l, j, mj, en, me, go⟩ := o
  obtain ⟨pa, pn, pc⟩ := h
  show Calls Tryz.prog 60 #[.agg #[.int .i64 k, .int .i64 m, .int .i64 x, .int .i64 y, .int .i64 d, .int .i64 e, .slice pa pn pc, .int .i64 j, .int .i64 mj, .bool en, .bool me, .bool go], .int .i64 k'] w0 _
  refine enter Tryz.func60 rfl Tryz.ntmps60 rfl (fun a hk => ?_); have hS := St.refl w0
  (repeat' (first | (show wpListIn _ _ _ _ _ (_ :: _) _ _; first | (refine wx1 ?_; clear hk a; intro a hk) | (refine wx2 ?_ ?_ <;> (intro hp; clear hk a; intro a hk)) | (refine wx3 ?_; clear hk hS a; intro w b hS a hk) | (refine wx4 ?_; clear hk hS a; intro w hS a hk) | (refine wx5 ?_; clear hk hS a; intro w v hS a hk) | fail) | refine wx0 ?_ | (refine s_end hk ?_; clear hk a; intro a hk) | fail))
  refine sg hk (g_callO hk (hf := by kernel_rfl) (hc := to_any ⟨⟨k, m, x, y, d, e⟩, l, j, mj, true, me, go⟩ ⟨pa, pn, pc⟩ k' 0 _) (h := ?_)); clear hk a; rintro _ w ⟨rfl, hS1⟩ a hk; replace hS := hS.call0 hS1; clear hS1
  (repeat' (first | (show wpListIn _ _ _ _ _ (_ :: _) _ _; first | (refine wx1 ?_; clear hk a; intro a hk) | (refine wx2 ?_ ?_ <;> (intro hp; clear hk a; intro a hk)) | (refine wx3 ?_; clear hk hS a; intro w b hS a hk) | (refine wx4 ?_; clear hk hS a; intro w hS a hk) | (refine wx5 ?_; clear hk hS a; intro w v hS a hk) | fail) | refine wx0 ?_ | (refine s_end hk ?_; clear hk a; intro a hk) | fail))
  refine done1R hk rfl (.str hS (hT := aT rfl) (hs := zT rfl)) (h := ?_)
  exact ⟨rfl, hS.nil⟩
theorem start_any (o : PO) (h : Hd) (f on dur : Int) (once : Bool) (w0 : World) : Calls Tryz.prog 22 #[ouV o h, .int .i64 f, .int .i64 on, .int .i64 dur, .bool once] w0 (Ret fun v w => v = ouV (startP o f on dur once) h ∧ St w0 [] w) := by
  obtain ⟨⟨k, m, x, y, d, e⟩, l, j, mj, en, me, go⟩ := o
  obtain ⟨pa, pn, pc⟩ := h
  show Calls Tryz.prog 22 #[.agg #[.int .i64 k, .int .i64 m, .int .i64 x, .int .i64 y, .int .i64 d, .int .i64 e, .slice pa pn pc, .int .i64 j, .int .i64 mj, .bool en, .bool me, .bool go], .int .i64 f, .int .i64 on, .int .i64 dur, .bool once] w0 _
  refine enter Tryz.func22 rfl Tryz.ntmps22 rfl (fun a hk => ?_); have hS := St.refl w0
  (repeat' (first | (show wpListIn _ _ _ _ _ (_ :: _) _ _; first | (refine wx1 ?_; clear hk a; intro a hk) | (refine wx2 ?_ ?_ <;> (intro hp; clear hk a; intro a hk)) | (refine wx3 ?_; clear hk hS a; intro w b hS a hk) | (refine wx4 ?_; clear hk hS a; intro w hS a hk) | (refine wx5 ?_; clear hk hS a; intro w v hS a hk) | fail) | refine wx0 ?_ | (refine s_end hk ?_; clear hk a; intro a hk) | fail))
  refine sg hk (g_callO hk (hf := by kernel_rfl) (hc := unmove_any ⟨⟨k, m, x, y, d, e⟩, l, j, mj, en, me, go⟩ ⟨pa, pn, pc⟩ _) (h := ?_)); clear hk a; rintro _ w ⟨rfl, hS1⟩ a hk; replace hS := hS.call0 hS1; clear hS1
  rw [startP]
  generalize hu : unmvP ⟨⟨k, m, x, y, d, e⟩, l, j, mj, en, me, go⟩ = u at *
  obtain ⟨⟨k1, m1, x1, y1, d1, e1⟩, l1, j1, mj1, en1, me1, go1⟩ := u
  simp only [ouV, Hd.v] at hk
  cases once with
  | true =>
    (repeat' (first | (show wpListIn _ _ _ _ _ (_ :: _) _ _; first | (refine wx1 ?_; clear hk a; intro a hk) | (refine wx2 ?_ ?_ <;> (intro hp; clear hk a; intro a hk)) | (refine wx3 ?_; clear hk hS a; intro w b hS a hk) | (refine wx4 ?_; clear hk hS a; intro w hS a hk) | (refine wx5 ?_; clear hk hS a; intro w v hS a hk) | fail) | refine wx0 ?_ | (refine s_end hk ?_; clear hk a; intro a hk) | fail))
    refine sg hk (g_callO hk (hf := by kernel_rfl) (hc := to_any ⟨⟨k1, m1, x1, y1, d1, e1⟩, l1, 2, mj1, en1, me1, go1⟩ ⟨pa, pn, pc⟩ on dur _) (h := ?_)); clear hk a; rintro _ w ⟨rfl, hS1⟩ a hk; replace hS := hS.call0 hS1; clear hS1
    (repeat' (first | (show wpListIn _ _ _ _ _ (_ :: _) _ _; first | (refine wx1 ?_; clear hk a; intro a hk) | (refine wx2 ?_ ?_ <;> (intro hp; clear hk a; intro a hk)) | (refine wx3 ?_; clear hk hS a; intro w b hS a hk) | (refine wx4 ?_; clear hk hS a; intro w hS a hk) | (refine wx5 ?_; clear hk hS a; intro w v hS a hk) | fail) | refine wx0 ?_ | (refine s_end hk ?_; clear hk a; intro a hk) | fail))
    refine done1R hk rfl (.str hS (hT := aT rfl) (hs := zT rfl)) (h := ?_)
    exact ⟨rfl, hS.nil⟩
  | false =>
    (repeat' (first | (show wpListIn _ _ _ _ _ (_ :: _) _ _; first | (refine wx1 ?_; clear hk a; intro a hk) | (refine wx2 ?_ ?_ <;> (intro hp; clear hk a; intro a hk)) | (refine wx3 ?_; clear hk hS a; intro w b hS a hk) | (refine wx4 ?_; clear hk hS a; intro w hS a hk) | (refine wx5 ?_; clear hk hS a; intro w v hS a hk) | fail) | refine wx0 ?_ | (refine s_end hk ?_; clear hk a; intro a hk) | fail))
    refine sg hk (g_callO hk (hf := by kernel_rfl) (hc := to_any ⟨⟨k1, m1, x1, y1, d1, e1⟩, l1, 1, mj1, en1, me1, go1⟩ ⟨pa, pn, pc⟩ f dur _) (h := ?_)); clear hk a; rintro _ w ⟨rfl, hS1⟩ a hk; replace hS := hS.call0 hS1; clear hS1
    (repeat' (first | (show wpListIn _ _ _ _ _ (_ :: _) _ _; first | (refine wx1 ?_; clear hk a; intro a hk) | (refine wx2 ?_ ?_ <;> (intro hp; clear hk a; intro a hk)) | (refine wx3 ?_; clear hk hS a; intro w b hS a hk) | (refine wx4 ?_; clear hk hS a; intro w hS a hk) | (refine wx5 ?_; clear hk hS a; intro w v hS a hk) | fail) | refine wx0 ?_ | (refine s_end hk ?_; clear hk a; intro a hk) | fail))
    refine done1R hk rfl (.str hS (hT := aT rfl) (hs := zT rfl)) (h := ?_)
    exact ⟨rfl, hS.nil⟩
theorem tell_any (o : PO) (h : Hd) (t : List Int) (vt : Value) (B : Bs) (L : List HP) (w : World) (h1 : o.hk.length ≤ 100) (h2 : t.length ≤ 100) (hS : St B (OwT 3 o.hk h.v :: OwT 3 t vt :: L) w) :
    Calls Tryz.prog 21 #[ouV o h, vt] w (Ret (PhR B L (tellP o t))) := by
  obtain ⟨⟨k, m, x, y, d, e⟩, l, j, mj, en, me, go⟩ := o
  obtain ⟨pa, pn, pc⟩ := h
  simp only at h1 hS
  show Calls Tryz.prog 21 #[.agg #[.int .i64 k, .int .i64 m, .int .i64 x, .int .i64 y, .int .i64 d, .int .i64 e, .slice pa pn pc, .int .i64 j, .int .i64 mj, .bool en, .bool me, .bool go], vt] w _
  refine enter Tryz.func21 rfl Tryz.ntmps21 rfl (fun a hk => ?_)
  refine wpIn_seq ?_; refine wpIn_region_lit ?_
  refine st_box hk hS ?_; clear hk hS a; intro w b1 hS a hk
  (repeat' (first | (show wpListIn _ _ _ _ _ (_ :: _) _ _; first | (refine wx1 ?_; clear hk a; intro a hk) | (refine wx2 ?_ ?_ <;> (intro hp; clear hk a; intro a hk)) | (refine wx3 ?_; clear hk hS a; intro w b hS a hk) | (refine wx4 ?_; clear hk hS a; intro w hS a hk) | (refine wx5 ?_; clear hk hS a; intro w v hS a hk) | fail) | refine wx0 ?_ | (refine s_end hk ?_; clear hk a; intro a hk) | fail))
  rename Value => v
  obtain ⟨aov, cv, hshp, _⟩ := (OwT.rd (hS.rd (A := OwT 3 _ v) (by (repeat (first | exact At.here | apply At.there))))).shape; subst hshp
  (repeat' (first | (show wpListIn _ _ _ _ _ (_ :: _) _ _; first | (refine wx1 ?_; clear hk a; intro a hk) | (refine wx2 ?_ ?_ <;> (intro hp; clear hk a; intro a hk)) | (refine wx3 ?_; clear hk hS a; intro w b hS a hk) | (refine wx4 ?_; clear hk hS a; intro w hS a hk) | (refine wx5 ?_; clear hk hS a; intro w v hS a hk) | fail) | refine wx0 ?_ | (refine s_end hk ?_; clear hk a; intro a hk) | fail))
  refine done1R hk rfl (.str hS (hT := aT rfl) (hs := zT rfl)) (h := ?_)
  exact ⟨⟨aov, (l ++ t).length, cv⟩, rfl, hS.sub (.cons (by (repeat (first | exact At.here | apply At.there))) (by (repeat (first | exact Sub.refl | apply Sub.under))))⟩
end Go.Proofs.YthodcfdgahfniaaGreat
