/- A range over a function: its record, its rounds, what stands behind it. Layer 12: a list gone through backwards, by a range over a function; what is known of a value only so far. Layer 12: the document's steps, in plain words. A value that owns several resources at once, of things that are not told. Maps by numbers. Layer 12: the program's steps. Layer 10: the document's rows, and the program's other functions. Layer 12: the reference's steps. Layer 12: steps done by the program. -/
import Derived.Test.YtbpkddpkcnlmhaaGreatF07
import Derived.RangeFuncRecord
import Derived.Lib.SliceRun
import Derived.WalkSpells
import Derived.Test.YtbpkddpkcnlmhaaGreatF09
set_option linter.all false
namespace Go.Proofs.YtbpkddpkcnlmhaaGreat
variable {df : List Deferred} {rr : Option Nat}
open Go.RowKit
def obj (b : Nat) (o : Obj) : HP where
 holds F w := F b ∧ (∀ c, F c → c = b) ∧ w.heap[b]? = some o
 stable := fun F w w' ⟨h1, h2, h3⟩ h => ⟨h1, h2, by rw [h b h1];exact h3⟩
 dom := fun F w c ⟨h1, h2, h3⟩ hc => by
  rw [h2 c hc]
  rcases Nat.lt_or_ge b w.heap.size with h' | h'
  ·exact h'
  ·rw [Array.getElem?_eq_none h'] at h3;cases h3
theorem obj.block {b : Nat} {o : Obj} {w : World} (h : (obj b o).rd w) : w.heap[b]? = some o :=
 let ⟨_, h⟩ := h
 h.2.2
theorem St.newObj {B : Bs} {w : World} {L : List HP} (h : St B L w) (o : Obj) : St B (obj w.heap.size o :: L) (w.alloc o) :=
 h.new (As := [_]) ((Below.refl _ _).alloc (Nat.le_refl _) _) ⟨fun b => b = w.heap.size, fun b hb => by subst hb;simp, Sep.one ⟨rfl, fun _ h => h, World.alloc_heap_new w o⟩⟩
theorem St.putObj {B : Bs} {w : World} {L L' : List HP} {b : Nat} {o : Obj} (h : St B L w) (hat : At (obj b o) L L') (o' : Obj) : St B (obj b o' :: L') (w.putObj b o') := by
 refine h.change (As := [_]) hat (fun F ⟨h1, h2, h3⟩ => ⟨rfl, rfl, rfl, by simp [World.putObj], fun c _ hc => ?_, F, fun c hc => ⟨.inl hc, ?_⟩, Sep.one ⟨h1, h2, ?_⟩⟩)
 ·exact World.putObj_heap_other (fun e => hc (by subst e;exact h1))
 ·have := (obj b o).dom F w c ⟨h1, h2, h3⟩ hc
  simpa [World.putObj] using this
 ·exact World.putObj_heap_same ((obj b o).dom F w b ⟨h1, h2, h3⟩ h1)
def lrec (fn : FuncId) (tmps : Array Value) (ps : Array Tmp) (assign body : Code) (D : Nat) (s : LoopState) (pe : Option Code) : Obj :=
 .loop { state := s, pending := pe, fn, tmps, params := ps, assign, body, defers := D }
def BegK (P : Program) (b : Nat) (body : Code) (R : Ending → World → Prop) (a : Act) (w : World) : Prop :=
 ∃ w₂, (Instr.beginRound b).run P w = .ok () w₂ ∧ body.wpIn (FR (some b)) 0 P (roundPost P b R) a w₂
section
variable {P : Program} {Q : Exit → Act → World → Prop} {a : Act} {w w' : World} {w0 : Bs} {n : Nat} {l l0 : List (Nat × Value)} {L L' : List HP}
 {dst : Option Nat} {R : Value → World → Prop} {ty : TypeId} {pos : String} {af : Array Edge} {g : Option (Nat × Bool)}
 {fn : FuncId} {tmps : Array Value} {ps : Array Tmp} {assign body : Code} {D b : Nat}
theorem q_begin {RE : Ending → World → Prop} (hS : St w0 L w) (hat : At (obj b (lrec fn tmps ps assign body D .ready none)) L L')
  (h : ∀ w', St w0 (obj b (lrec fn tmps ps assign body D .busy none) :: L') w' → body.wpIn (FR (some b)) 0 P (roundPost P b RE) a w') : BegK P b body RE a w :=
 ⟨_, run_beginRound (obj.block (hS.rd hat)) rfl, h _ (hS.putObj hat _)⟩
theorem q_roundN {RE : Ending → World → Prop} (hS : St w0 L w) (hat : At (obj b (lrec fn tmps ps assign body D .busy none)) L L')
  (h : ∀ w', St w0 (obj b (lrec fn tmps ps assign body D .ready none) :: L') w' → RE (.returned (.bool true)) w') : roundPost P b RE .normal a w :=
 ⟨_, _, run_endRound none (obj.block (hS.rd hat)), h _ (hS.putObj hat _)⟩
theorem beg_mono {asg : Code} {RE RE' : Ending → World → Prop} {F : Exit → Act → World → Prop} (h : asg.wpIn (FR (some b)) 0 P (Exit.then (BegK P b body RE) F) a w) (hr : ∀ e w, RE e w → RE' e w) :
  asg.wpIn (FR (some b)) 0 P (Exit.then (BegK P b body RE') F) a w := by
 refine wpIn_mono h (fun e a w h => ?_)
 cases e with
 | normal =>
  obtain ⟨w2, h2, h3⟩ := h
  refine ⟨w2, h2, wpIn_mono h3 (fun e a w h => ?_)⟩
  cases e with
  | normal => exact let ⟨u, w', h1, h2⟩ := h;⟨u, w', h1, hr _ _ h2⟩
  | ret => exact let ⟨u, w', h1, h2⟩ := h;⟨u, w', h1, hr _ _ h2⟩
  | exit id => exact let ⟨u, w', h1, h2⟩ := h;⟨u, w', h1, hr _ _ h2⟩
  | goto id => exact let ⟨u, w', h1, h2⟩ := h;⟨u, w', h1, hr _ _ h2⟩
  | panic c => exact h
  | outgrown => exact h
 | exit id => exact h
 | goto id => exact h
 | ret => exact h
 | panic c => exact h
 | outgrown => exact h
theorem fold2 {p q : Nat} {x y : Value} (hk : Kn df n a l0) (hp : Nat.blt p n = true) (hq : Nat.blt q n = true) :
  Kn [] n { tmps := ((#[p, q] : Array Tmp).zip #[x, y]).foldl (fun t (s, u) => t.setIfInBounds s u) a.tmps, defers := [] } ((q, y) :: (p, x) :: l0) := by
 have h0 : Kn [] n ({ tmps := a.tmps, defers := [] } : Act) l0 := ⟨hk.size, hk.get, rfl⟩
 have h1 := (h0.put (d := some p) hp x).put (d := some q) hq y
 have e : (#[p, q] : Array Tmp).zip #[x, y] = #[(p, x), (q, y)] := by simp
 have e2 : Array.foldl (fun t ((s, u) : Tmp × Value) => t.setIfInBounds s u) a.tmps #[(p, x), (q, y)] = (a.tmps.setIfInBounds p x).setIfInBounds q y := by simp
 rw [e, e2]
 exact h1
theorem round2 {p q : Nat} {x y : Value} {RE : Ending → World → Prop} (hk : Kn df n a l0) (hp : Nat.blt p n = true := by rfl) (hq : Nat.blt q n = true := by rfl)
  (h : ∀ a', Kn [] n a' ((q, y) :: (p, x) :: l0) → assign.wpIn (FR (some b)) 0 P (Exit.then (BegK P b body RE) (fun _ _ _ => False)) a' w) :
  RoundIn Fence.wide 0 P b fn (((#[p, q] : Array Tmp).zip #[x, y]).foldl (fun t (s, u) => t.setIfInBounds s u) a.tmps) assign body w RE :=
 roundIn_of_wpIn (F := Fence.wide) (n := 0) trivial (h _ (fold2 hk hp hq))
theorem g_yield {R' : Value → World → Prop} {x : Operand} {xs : List Operand} {vs : List Value} {ts : Array TypeId} {s : LoopState} {pe : Option Code} (hk : Kn df n a l) (hS : St w0 L w) (hat : At (obj b (lrec fn tmps ps assign body D s pe)) L L')
  (h : RoundIn Fence.wide 0 P b fn ((ps.zip vs.toArray).foldl (fun t (s, u) => t.setIfInBounds s u) tmps) assign body w (Ret R')) (h' : ∀ v w', R' v w' → R v w')
  (hx : ev l x = some (.func (.yield b) #[] #[]) := by rfl) (hxs : evs l xs = some vs := by rfl) (hsz : vs.toArray.size = ps.size) :
  Gives P ⟨dst, .call { callee := .value x, args := xs.toArray, argTypes := ts }, ty, pos, af, g⟩ a w R := by
 have he := evs_map hk hxs
 have e : (execOp a.eval ⟨dst, .call { callee := .value x, args := xs.toArray, argTypes := ts }, ty, pos, af, g⟩) = Instr.yield b (#[] ++ (List.toArray xs).map a.eval ++ #[]) := by
  simp [execOp, resolve, hk.eval hx, Deferred.ofValue, invoke]
 have e2 : (#[] ++ (List.toArray xs).map a.eval ++ #[] : Array Value) = vs.toArray := by simp [he]
 unfold Gives
 rw [e, e2, run_yield (obj.block (hS.rd hat)) hsz]
 exact RoundIn.mono h (fun e w hh => hh.mono h')
def mk_ (D : Nat) : List Deferred := [{ target := .collected D, args := #[] }]
theorem wp_rangeFunc {ι : Type} {gop : Operand} {gf : FuncId} {lb : List Value} (Lx : ι → List HP) (Fx : ι → Prop) (hk : Kn [] n a l0) (hS : St w0 L w)
  (hcall : ∀ (fn : FuncId) (b D : Nat) (w1 : World), St w0 (obj b (lrec fn a.tmps ps assign body D .ready none) :: obj D (.deferred (some [])) :: L) w1 →
   Calls P gf (.func (.yield b) #[] #[] :: lb).toArray w1 (Ret fun _ w' => ∃ x, St w0 (obj b (lrec fn a.tmps ps assign body D .ready none) :: obj D (.deferred (some [])) :: Lx x) w' ∧ Fx x))
  (h : ∀ x D w', Fx x → St w0 (obj D (.deferred (some [])) :: Lx x) w' → ∀ a', Kn (mk_ D) n a' l0 → Q .normal a' w')
  (hg : ev l0 gop = some (.func (.func gf) #[] lb.toArray) := by rfl) (hf : callable P gf = true := by kernel_rfl) :
  (Code.rangeFunc gop ps assign body).wpIn (FR none) 0 P Q a w := by
 refine wpIn_rangeFunc ?_
 intro fn _
 have h1 := (hS.newObj (.deferred (some []))).newObj (lrec fn a.tmps ps assign body w.heap.size .ready none)
 rw [World.size_alloc] at h1
 have hc := (hcall fn (w.heap.size + 1) w.heap.size _ h1)
 obtain ⟨W1, hW1⟩ : ∃ W1, (w.alloc (.deferred (some []))).alloc (lrec fn a.tmps ps assign body w.heap.size .ready none) = W1 := ⟨_, rfl⟩
 rw [hW1] at hc
 refine ⟨w.heap.size + 1, mk_ w.heap.size, W1, { target := .fn (.func gf) lb.toArray, args := #[.func (.yield (w.heap.size + 1)) #[] #[]] }, W1, gf,
  (.func (.yield (w.heap.size + 1)) #[] #[] :: lb).toArray, W1, (by rw [← hW1];exact run_enterLoop_outer _ _ _ _ _), ?_, fun _ _ => trivial, ?_, fun e => (by cases e), CallsIn.fr (Calls.mono hc ?_)⟩
 ·simp only [resolve, hk.eval hg]
  simp [go_sem]
 ·have e : (.func (.yield (w.heap.size + 1)) #[] #[] :: lb).toArray = #[.func (.yield (w.heap.size + 1)) #[] #[]] ++ lb.toArray := by simp
  rw [e]
  simp [invoke, go_sem, callFunc_run hf]
 ·rintro e w2 ⟨v, rfl, x, hS2, hF⟩
  refine ⟨none, _, run_endLoop (obj.block (hS2.rd At.here)) (by simp), ?_⟩
  refine h x _ _ hF ((hS2.putObj At.here _).sub (.cons (At.there At.here) .cons_drop)) _ ⟨hk.size, hk.get, ?_⟩
  simp [mk_, hk.defers]
def DoneM (P : Program) (fn : Func) (R : Value → World → Prop) : Exit → Act → World → Prop := bodyPostM Fence.wide 0 P fn (Ret R)
theorem enterM {f : FuncId} {fn : Func} {c : Code} {args : List Value}
  (hf : P.funcs[f]? = some fn) (hb : fn.body = some c) (hnt : fn.ntmps = n) (hn : Nat.ble args.length n = true)
  (h : ∀ a, Kn [] n a (initK 0 args) → c.wpIn (FR none) 0 P (DoneM P fn R) a w) : Calls P f args.toArray w (Ret R) := by
 subst hnt
 exact callsIn_wide.1 (callsIn_of_wp_marks (F := Fence.wide) (n := 0) hf hb trivial (h _ (Kn.init (Nat.le_of_ble_eq_true hn))) rfl)
theorem done1M {fn : Func} {t : Nat} {v : Value} (hk : Kn (mk_ D) n a l) (hS : St w0 L w) (hat : At (obj D (.deferred (some []))) L L') (h : ∀ w', St w0 L' w' → R v w')
  (hr : fn.results = #[.tmp t] := by rfl) (hv : lk l t = some v := by rfl) : DoneM P fn R .ret a w := by
 have h1 := hS.putObj hat (.deferred none)
 show LeavesInM _ _ _ _ _ _ a.defers .returning w
 rw [hk.defers]
 exact ⟨by simp, .inl ⟨_, _, rfl, run_takeDeferred (obj.block (hS.rd hat)), _, results_tmp hr _ _ _, _, by rw [hk.get t v hv], h _ (h1.sub .cons_drop)⟩⟩
theorem done0 {fn : Func} (hk : Kn [] n a l) (hr : fn.results = #[] := by rfl) (h : R (.tuple #[]) w) : Done P fn R .ret a w :=
 bodyPost_ret (results_none hr _ _ _) hk.defers ⟨_, rfl, h⟩
theorem done0n {fn : Func} (hk : Kn [] n a l) (hr : fn.results = #[] := by rfl) (h : R (.tuple #[]) w) : Done P fn R .normal a w :=
 bodyPost_end (results_none hr _ _ _) hk.defers ⟨_, rfl, h⟩
theorem g_eqN {x : Operand} {t t' E m c n' c' : Nat} {ao : Option Addr} (hk : Kn df n a l) (h : R (.bool ao.isNone) w) (hx : ev l x = some (.slice ao m c) := by rfl) (hT : elOf P t = some E) :
  Gives P ⟨dst, .binOp .eql t x (.const (.slice none n' c')) t', ty, pos, af, g⟩ a w R :=
 givesv (v := .bool ao.isNone) (by
  have h1 := Lib.run_eql_slice_nil (P := P) w t E ao m c n' c' (elOf_und hT)
  have h2 : a.eval (.const (.slice none n' c')) = .slice none n' c' := rfl
  simp [execOp, hk.eval hx, h2, eqGuard, Sem.run_bind, h1]) h
end
end Go.Proofs.YtbpkddpkcnlmhaaGreat
namespace Go.Proofs.YtbpkddpkcnlmhaaGreat
open Go.RowKit
set_option maxRecDepth 100000
attribute [local irreducible] Go.Code.wpIn Go.wpListIn Go.Calls Gives Go.Exit.then Go.Exit.inBlock Done ObxE
def exH {α : Type} (A : α → HP) (p : α → Prop) : HP where
 holds F w := ∃ x, p x ∧ (A x).holds F w
 stable := fun F w w' ⟨x, hp, h⟩ hh => ⟨x, hp, (A x).stable F w w' h hh⟩
 dom := fun F w c ⟨x, _, h⟩ hc => (A x).dom F w c h hc
theorem exH.of {α : Type} {A : α → HP} {p : α → Prop} {B : Bs} {w : World} {L : List HP} {x : α} (h : St B (A x :: L) w) (hp : p x) : St B (exH A p :: L) w :=
 h.conv (As := [_]) At.here (fun F hF => ⟨F, fun _ h => h, Sep.one ⟨x, hp, hF⟩⟩)
theorem St.exH {α : Type} {A : α → HP} {p : α → Prop} {B : Bs} {w : World} {L L' : List HP} (h : St B L w) (hat : At (Proofs.YtbpkddpkcnlmhaaGreat.exH A p) L L') : ∃ x, p x ∧ St B (A x :: L') w := by
 obtain ⟨F, hF, hS⟩ := h.own
 obtain ⟨F1, F2, h1, h2, h3, ⟨x, hp, h4⟩, h5⟩ := hS.pull hat
 exact ⟨x, hp, h.below, h.frz, F, hF, F1, F2, h1, h2, h3, h4, h5⟩
theorem backw_any {B : Bs} {w : World} {L : List HP} {ao : Option Addr} {j c : Nat} (hS : St B L w) :
  Calls Tryz.prog 48 #[.slice ao j c] w (Ret fun u w' => ∃ b, u = .func (.func 72) #[] #[.pointer (some ⟨b, 0, none⟩)] ∧ St B (pts b [.slice ao j c] 22 :: L) w') := by
 refine enter Tryz.func48 rfl Tryz.ntmps48 rfl (fun a hk => ?_)
 (repeat' (first|((first|refine wx1 ?_|refine wx2 ?_ ?_<;>intro hp|refine s_end hk ?_)<;>(clear hk a;intro a hk))|((first|refine wx3 ?_;intro w b|refine wx4 ?_;intro w|refine wx5 ?_;intro w v);clear hk hS a;intro hS a hk)|refine wx0 ?_|fail))
 exact done1 hk (h := ⟨b, rfl, hS⟩)
theorem back1_any {ι : Type} {B : Bs} {w : World} {xs : List Int} {v : Value} {bv b : Nat} {fn : FuncId} {tmps : Array Value} {p q : Nat} {asg bod : Code} {D : Nat} (Ls : Nat → ι → List HP) (F : Nat → ι → Prop) (x0 : ι)
  (hS : St B (obj b (lrec fn tmps #[p, q] asg bod D .ready none) :: pts bv [v] 22 :: OwT 3 xs v :: Ls xs.length x0) w) (hF : F xs.length x0) (hl : xs.length ≤ 100000)
  (hround : ∀ (i : Nat) (y : ι) (id : Int) (w : World), xs[i]? = some id → i < xs.length → F (i + 1) y →
   St B (obj b (lrec fn tmps #[p, q] asg bod D .ready none) :: pts bv [v] 22 :: OwT 3 xs v :: Ls (i + 1) y) w →
   RoundIn Fence.wide 0 Tryz.prog b fn (((#[p, q] : Array Tmp).zip #[.int .i64 (i : Int), .int .i64 id]).foldl (fun t (s, u) => t.setIfInBounds s u) tmps) asg bod w
    (Ret fun u w' => u = .bool true ∧ ∃ y', St B (obj b (lrec fn tmps #[p, q] asg bod D .ready none) :: pts bv [v] 22 :: OwT 3 xs v :: Ls i y') w' ∧ F i y')) :
  Calls Tryz.prog 72 #[.func (.yield b) #[] #[], .pointer (some ⟨bv, 0, none⟩)] w
   (Ret fun _ w' => ∃ y, St B (obj b (lrec fn tmps #[p, q] asg bod D .ready none) :: pts bv [v] 22 :: OwT 3 xs v :: Ls 0 y) w' ∧ F 0 y) := by
 refine enter Tryz.func72 rfl Tryz.ntmps72 rfl (fun a hk => ?_)
 (repeat' (first|((first|refine wx1 ?_|refine wx2 ?_ ?_<;>intro hp|refine s_end hk ?_)<;>(clear hk a;intro a hk))|((first|refine wx3 ?_;intro w b|refine wx4 ?_;intro w|refine wx5 ?_;intro w v);clear hk hS a;intro hS a hk)|refine wx0 ?_|fail))
 replace hk := Kn.kp [0, 1, 3] hk
 refine wp_while (fun x : Nat × ι => [(3, .int .i64 ((x.1 : Int) - 1))]) (fun x => obj b (lrec fn tmps #[p, q] asg bod D .ready none) :: pts bv [v] 22 :: OwT 3 xs v :: Ls x.1 x.2) (fun x => x.1 ≤ xs.length ∧ F x.1 x.2) (fun x => x.1) (xs.length, x0) hk skx hS ⟨Nat.le_refl _, hF⟩ ?_
 clear hk hS a hF
 rintro ⟨k, y⟩ a w hk hS ⟨hkl, hF⟩
 simp only at hk hS hkl hF
 cases k with
 | zero =>
  (repeat' (first|((first|refine wx1 ?_|refine wx2 ?_ ?_<;>intro hp|refine s_end hk ?_)<;>(clear hk a;intro a hk))|((first|refine wx3 ?_;intro w b|refine wx4 ?_;intro w|refine wx5 ?_;intro w v);clear hk hS a;intro hS a hk)|refine wx0 ?_|fail))
  exact done0n hk (h := ⟨y, hS, hF⟩)
 | succ i =>
  obtain ⟨id, hx⟩ : ∃ x, xs[i]? = some x := ⟨_, List.getElem?_eq_getElem (by omega)⟩
  rw [show ((i + 1 : Nat) : Int) - 1 = (i : Int) by omega] at hk
  (repeat' (first|((first|refine wx1 ?_|refine wx2 ?_ ?_<;>intro hp|refine s_end hk ?_)<;>(clear hk a;intro a hk))|((first|refine wx3 ?_;intro w b|refine wx4 ?_;intro w|refine wx5 ?_;intro w v);clear hk hS a;intro hS a hk)|refine wx0 ?_|fail))
  refine sg hk (g_yield hk hS atx (hround i y id w hx (by omega) hF hS) ?_ (hsz := rfl));clear hk hS a
  rintro _ w ⟨rfl, y', hS, hF'⟩ a hk
  (repeat' (first|((first|refine wx1 ?_|refine wx2 ?_ ?_<;>intro hp|refine s_end hk ?_)<;>(clear hk a;intro a hk))|((first|refine wx3 ?_;intro w b|refine wx4 ?_;intro w|refine wx5 ?_;intro w v);clear hk hS a;intro hS a hk)|refine wx0 ?_|fail))
  exact ⟨(i, y'), by simp only;omega, hk.sd, hS, by omega, hF'⟩
theorem wp_rangeB {ι : Type} {B : Bs} {w : World} {xs : List Int} {v : Value} {bv : Nat} {p q n : Nat} {asg bod : Code} {gop : Operand} {Q : Exit → Act → World → Prop} {a : Act} {l0 : List (Nat × Value)}
  (Ls : Nat → ι → List HP) (F : Nat → ι → Prop) (x0 : ι) (hk : Kn [] n a l0) (hS : St B (pts bv [v] 22 :: OwT 3 xs v :: Ls xs.length x0) w) (hF : F xs.length x0) (hl : xs.length ≤ 100000)
  (hround : ∀ (i : Nat) (y : ι) (id : Int) (fn b D : Nat) (tmps : Array Value) (w : World), xs[i]? = some id → i < xs.length → F (i + 1) y →
   St B (obj b (lrec fn tmps #[p, q] asg bod D .ready none) :: obj D (.deferred (some [])) :: pts bv [v] 22 :: OwT 3 xs v :: Ls (i + 1) y) w →
   ∀ a', Kn [] n a' ((q, .int .i64 id) :: (p, .int .i64 (i : Int)) :: l0) → asg.wpIn (FR (some b)) 0 Tryz.prog (Exit.then (BegK Tryz.prog b bod (Ret fun u w' => u = .bool true ∧
    ∃ y', St B (obj b (lrec fn tmps #[p, q] asg bod D .ready none) :: obj D (.deferred (some [])) :: pts bv [v] 22 :: OwT 3 xs v :: Ls i y') w' ∧ F i y')) (fun _ _ _ => False)) a' w)
  (hend : ∀ (y : ι) (D : Nat) (w : World), F 0 y → St B (obj D (.deferred (some [])) :: pts bv [v] 22 :: OwT 3 xs v :: Ls 0 y) w → ∀ a', Kn (mk_ D) n a' l0 → Q .normal a' w)
  (hg : ev l0 gop = some (.func (.func 72) #[] #[.pointer (some ⟨bv, 0, none⟩)]) := by rfl) (hp : Nat.blt p n = true := by rfl) (hq : Nat.blt q n = true := by rfl) :
  (Code.rangeFunc gop #[p, q] asg bod).wpIn (FR none) 0 Tryz.prog Q a w := by
 refine wp_rangeFunc (lb := [.pointer (some ⟨bv, 0, none⟩)]) (fun y => pts bv [v] 22 :: OwT 3 xs v :: Ls 0 y) (fun y => F 0 y) hk hS (fun fn b D w1 hS1 => ?_) (fun y D w hF hS => hend y D w hF hS) hg
 have hS2 : St B (obj b (lrec fn a.tmps #[p, q] asg bod D .ready none) :: pts bv [v] 22 :: OwT 3 xs v :: (fun i y => obj D (.deferred (some [])) :: Ls i y) xs.length x0) w1 :=
  hS1.sub (.cons .here (.cons (.there .here) (.cons (.there .here) .refl)))
 refine Calls.mono (back1_any (fun i y => obj D (.deferred (some [])) :: Ls i y) F x0 hS2 hF hl (fun i y id w hid hi hF hS => round2 hk hp hq (fun a' hk' => ?_)))
  (fun e w h => h.mono (fun v w ⟨y, hS, hF⟩ => ⟨y, hS.sub (.cons .here (.cons (.there (.there .here)) (.cons .here (.cons .here .refl)))), hF⟩))
 have h1 := hround i y id fn b D a.tmps w hid hi hF (hS.sub (.cons .here (.cons (.there (.there .here)) (.cons .here (.cons .here .refl))))) a' hk'
 exact beg_mono h1 (fun e w h => h.mono (fun u w ⟨h0, y', hS, hF⟩ => ⟨h0, y', hS.sub (.cons .here (.cons (.there .here) (.cons (.there .here) .refl))), hF⟩))
end Go.Proofs.YtbpkddpkcnlmhaaGreat
namespace Go.Proofs.YtbpkddpkcnlmhaaGreat
def nowF (f t : List Int) : List Int := f.filter (fun x => decide (x ∈ t))
def dropsF (f t : List Int) : List StepW := (f.filter (fun x => !decide (x ∈ t))).map (fun x => (1, x, 0))
def lessF (f : List Int) (X : List Int) (id : Int) : List Int := if id ∈ f then woF X id else X
def placeF (t X : List Int) (i : Nat) : Int := match t[i + 1]? with | some y => idxI X y | none => (X.length : Int)
def rndW (f t : List Int) (i : Nat) (s : List Int × List StepW) : List Int × List StepW :=
 match t[i]? with
 | none => s
 | some id => if id ∈ staysF f t then s else
  (insF (lessF f s.1 id) (placeF t (lessF f s.1 id) i).toNat id, s.2 ++ [((if id ∈ f then 3 else 2), id, placeF t (lessF f s.1 id) i)])
def runW (f t : List Int) : Nat → List Int × List StepW
 | 0 => (nowF f t, dropsF f t)
 | k + 1 => rndW f t (t.length - (k + 1)) (runW f t k)
def stW (f t : List Int) (i : Nat) : List Int × List StepW := runW f t (t.length - i)
def stepsF (f t : List Int) : List StepW := (stW f t 0).2
theorem st_succ {f t : List Int} {i : Nat} (h : i < t.length) : stW f t i = rndW f t i (stW f t (i + 1)) := by
 unfold stW
 rw [show t.length - i = (t.length - (i + 1)) + 1 by omega]
 simp only [runW]
 rw [show t.length - (t.length - (i + 1) + 1) = i by omega]
theorem st_stays {f t : List Int} {i : Nat} {id : Int} (h : t[i]? = some id) (hs : id ∈ staysF f t) : stW f t i = stW f t (i + 1) := by
 rw [st_succ (List.getElem?_eq_some_iff.1 h).1]
 simp only [rndW, h, if_pos hs]
theorem st_put {f t : List Int} {i : Nat} {id : Int} (h : t[i]? = some id) (hs : id ∉ staysF f t) : stW f t i =
  (insF (lessF f (stW f t (i + 1)).1 id) (placeF t (lessF f (stW f t (i + 1)).1 id) i).toNat id, (stW f t (i + 1)).2 ++ [((if id ∈ f then 3 else 2), id, placeF t (lessF f (stW f t (i + 1)).1 id) i)]) := by
 rw [st_succ (List.getElem?_eq_some_iff.1 h).1]
 simp only [rndW, h, if_neg hs]
theorem st_end (f t : List Int) : stW f t t.length = (nowF f t, dropsF f t) := by
 unfold stW
 rw [Nat.sub_self];rfl
theorem less_len (f X : List Int) (id : Int) : (lessF f X id).length ≤ X.length := by
 unfold lessF
 split
 ·exact List.length_filter_le _ _
 ·exact Nat.le_refl _
theorem ins_len (l : List Int) (i : Nat) (id : Int) : (insF l i id).length = l.length + 1 := by
 unfold insF
 simp only [List.length_append, List.length_cons, List.length_take, List.length_drop]
 omega
theorem run_len (f t : List Int) : ∀ k, (runW f t k).1.length ≤ f.length + k ∧ (runW f t k).2.length ≤ f.length + k
 | 0 => ⟨List.length_filter_le _ _, by simp only [runW, dropsF, List.length_map];exact List.length_filter_le _ _⟩
 | k + 1 => by
  have ih := run_len f t k
  simp only [runW, rndW]
  split
  ·omega
  ·rename_i id _
   split
   ·omega
   ·have := less_len f (runW f t k).1 id
    rw [ins_len]
    simp only [List.length_append, List.length_cons, List.length_nil]
    omega
theorem st_len (f t : List Int) (i : Nat) : (stW f t i).1.length ≤ f.length + t.length ∧ (stW f t i).2.length ≤ f.length + t.length := by
 have := run_len f t (t.length - i)
 unfold stW
 omega
theorem mem_ins {l : List Int} {i : Nat} {id x : Int} : x ∈ insF l i id ↔ x = id ∨ x ∈ l := by
 unfold insF
 conv => rhs;rw [← List.take_append_drop i l]
 simp only [List.mem_append, List.mem_cons]
 constructor
 ·rintro (h | h | h)
  ·exact .inr (.inl h)
  ·exact .inl h
  ·exact .inr (.inr h)
 ·rintro (h | h | h)
  ·exact .inr (.inl h)
  ·exact .inl h
  ·exact .inr (.inr h)
theorem mem_less {f X : List Int} {id x : Int} (hx : x ∈ X) (hn : x ≠ id) : x ∈ lessF f X id := by
 unfold lessF
 split
 ·unfold woF;rw [List.mem_filter];exact ⟨hx, by simpa using hn⟩
 ·exact hx
theorem less_sub {f X : List Int} {id x : Int} (hx : x ∈ lessF f X id) : x ∈ X := by
 unfold lessF at hx
 split at hx
 ·unfold woF at hx;exact (List.mem_filter.1 hx).1
 ·exact hx
theorem at_mem {l : List Int} {j : Nat} (h : j < l.length) : at_ l j ∈ l := by
 rw [← at_get h];exact List.getElem_mem h
theorem stays_mem {f t : List Int} {x : Int} (h : x ∈ staysF f t) : x ∈ t ∧ x ∈ f := by
 unfold staysF staysN at h
 rw [List.take_length, List.mem_map] at h
 obtain ⟨p, hp, e⟩ := h
 have hb : p.toNat < (oldF f t).length := by have := lis_mem hp;omega
 have hl : (oldF f t).length = (idsF f t).length := by unfold oldF;rw [List.length_map]
 rw [hl] at hb
 have := at_mem hb
 rw [e] at this
 unfold idsF at this
 rw [List.mem_filter] at this
 exact ⟨this.1, by simpa using this.2⟩
theorem st_mem {f t : List Int} : ∀ k, k ≤ t.length → (∀ x ∈ (runW f t k).1, x ∈ t) ∧ (∀ x, x ∈ t → x ∈ f → x ∈ (runW f t k).1) ∧ (∀ x ∈ t.drop (t.length - k), x ∈ (runW f t k).1)
 | 0, _ => by
  simp only [runW, nowF]
  refine ⟨fun x hx => by simpa using (List.mem_filter.1 hx).2, fun x h1 h2 => List.mem_filter.2 ⟨h2, by simpa using h1⟩, fun x hx => ?_⟩
  simp at hx
 | k + 1, hk => by
  obtain ⟨h1, h2, h3⟩ := st_mem (f := f) (t := t) k (by omega)
  have hi : t[t.length - (k + 1)]? = some (t[t.length - (k + 1)]'(by omega)) := List.getElem?_eq_getElem (by omega)
  have hd : t.drop (t.length - (k + 1)) = t[t.length - (k + 1)]'(by omega) :: t.drop (t.length - k) := by
   rw [List.drop_eq_getElem_cons (by omega), show t.length - (k + 1) + 1 = t.length - k by omega]
  generalize t[t.length - (k + 1)]'(by omega) = id at hi hd
  have hid : id ∈ t := List.mem_of_getElem? hi
  rw [hd]
  simp only [runW, rndW, hi]
  by_cases hs : id ∈ staysF f t
  ·rw [if_pos hs]
   refine ⟨h1, h2, fun x hx => ?_⟩
   rcases List.mem_cons.1 hx with rfl | hx
   ·exact h2 _ hid (stays_mem hs).2
   ·exact h3 x hx
  ·rw [if_neg hs]
   have key : ∀ x, x ∈ (runW f t k).1 → x = id ∨ x ∈ lessF f (runW f t k).1 id := fun x hx => by
    by_cases e : x = id
    ·exact .inl e
    ·exact .inr (mem_less hx e)
   refine ⟨fun x hx => ?_, fun x a b => mem_ins.2 (key x (h2 x a b)), fun x hx => mem_ins.2 ?_⟩
   ·rcases mem_ins.1 hx with rfl | hx
    ·exact hid
    ·exact h1 x (less_sub hx)
   ·rcases List.mem_cons.1 hx with rfl | hx
    ·exact .inl rfl
    ·exact key x (h3 x hx)
theorem next_in {f t : List Int} (ht : t.Nodup) {i : Nat} {id y : Int} (h : t[i]? = some id) (hy : t[i + 1]? = some y) : y ∈ lessF f (stW f t (i + 1)).1 id := by
 have hi := (List.getElem?_eq_some_iff.1 hy).1
 have h3 := (st_mem (f := f) (t := t) (t.length - (i + 1)) (by omega)).2.2
 rw [show t.length - (t.length - (i + 1)) = i + 1 by omega] at h3
 refine mem_less (h3 y ?_) ?_
 ·rw [List.drop_eq_getElem_cons hi, (List.getElem?_eq_some_iff.1 hy).2]
  exact List.mem_cons_self
 ·intro e
  subst e
  obtain ⟨ha, hb⟩ := List.getElem?_eq_some_iff.1 h
  exact List.pairwise_iff_getElem.1 ht i (i + 1) ha hi (by omega) (by rw [hb, (List.getElem?_eq_some_iff.1 hy).2])
theorem idx_in {l : List Int} {y : Int} (h : y ∈ l) : idxI l y = (l.idxOf y : Nat) ∧ l.idxOf y < l.length := by
 unfold idxI
 rw [if_pos h]
 exact ⟨rfl, List.idxOf_lt_length_iff.2 h⟩
end Go.Proofs.YtbpkddpkcnlmhaaGreat
namespace Go.Proofs.YtbpkddpkcnlmhaaGreat
open Go.RowKit
theorem Sep.split {w : World} : ∀ {L1 L2 : List HP} {F : Nat → Prop}, Sep (L1 ++ L2) F w → ∃ F1 F2 : Nat → Prop, (∀ b, F1 b → F b) ∧ (∀ b, F2 b → F b) ∧ (∀ b, F1 b → F2 b → False) ∧ Sep L1 F1 w ∧ Sep L2 F2 w
 | [], _, F, h => ⟨fun _ => False, F, fun _ h => h.elim, fun _ h => h, fun _ h _ => h, trivial, h⟩
 | A :: L1, L2, F, ⟨G1, G2, h1, h2, h3, h4, h5⟩ => by
  obtain ⟨F1, F2, k1, k2, k3, k4, k5⟩ := Sep.split (L1 := L1) h5
  exact ⟨fun b => G1 b ∨ F1 b, F2, fun b h => h.elim (h1 b) (fun h => h2 b (k1 b h)), fun b h => h2 b (k2 b h), fun b h1 hF => h1.elim (fun hG => h3 b hG (k2 b hF)) (fun hG => k3 b hG hF),
   ⟨G1, F1, fun b h => .inl h, fun b h => .inr h, fun b hG hF => h3 b hG (k1 b hF), h4, k4⟩, k5⟩
def bagH {α : Type} (A : α → List HP) (p : α → Prop) : HP where
 holds F w := (∀ b, F b → b < w.heap.size) ∧ ∃ x, p x ∧ Sep (A x) F w
 stable F w w' h hF := by
  obtain ⟨h1, x, hp, hs⟩ := h
  refine ⟨fun b hb => ?_, x, hp, hs.stable hF⟩
  have h2 := hF b hb
  rcases Nat.lt_or_ge b w'.heap.size with h | h
  ·exact h
  ·rw [Array.getElem?_eq_none h, Array.getElem?_eq_getElem (h1 b hb)] at h2;cases h2
 dom F w b h hb := h.1 b hb
theorem bagH.of {α : Type} {A : α → List HP} {p : α → Prop} {B : Bs} {w : World} {L : List HP} {x : α} (h : St B (A x ++ L) w) (hp : p x) : St B (bagH A p :: L) w := by
 obtain ⟨F, hF, hs⟩ := h.own
 obtain ⟨F1, F2, h1, h2, h3, h4, h5⟩ := hs.split
 exact ⟨h.below, h.frz, F, hF, F1, F2, h1, h2, h3, ⟨fun b hb => (hF b (h1 b hb)).2, x, hp, h4⟩, h5⟩
theorem St.bag {α : Type} {A : α → List HP} {p : α → Prop} {B : Bs} {w : World} {L L' : List HP} (h : St B L w) (hat : At (bagH A p) L L') : ∃ x, p x ∧ St B (A x ++ L') w := by
 obtain ⟨F, hF, hs⟩ := h.own
 obtain ⟨F1, F2, h1, h2, h3, ⟨_, x, hp, h4⟩, h5⟩ := hs.pull hat
 exact ⟨x, hp, h.below, h.frz, F, hF, (h4.append h5 h3).mono (fun b hb => hb.elim (h1 b) (h2 b))⟩
theorem Sep.rd {w : World} {A : HP} {L L' : List HP} {F : Nat → Prop} (h : Sep L F w) (hat : At A L L') : A.rd w :=
 let ⟨F1, _, _, _, _, h4, _⟩ := h.pull hat
 ⟨F1, h4⟩
theorem bagH.rd {α : Type} {A : α → List HP} {p : α → Prop} {w : World} (h : (bagH A p).rd w) : ∃ x, p x ∧ ∃ F, Sep (A x) F w :=
 let ⟨F, _, x, hp, hs⟩ := h
 ⟨x, hp, F, hs⟩
noncomputable def only (F : Nat → Prop) (w : World) : World :=
 { w with heap := w.heap.mapIdx fun i o => @ite _ (F i) (Classical.propDecidable _) o dead }
theorem only_in {F : Nat → Prop} {w : World} {b : Nat} (h : F b) : (only F w).heap[b]? = w.heap[b]? := by
 classical
 simp only [only, Array.getElem?_mapIdx]
 cases hw : w.heap[b]? with
 | none => rfl
 | some o => simp [h]
theorem only_live {F : Nat → Prop} {w : World} {b : Nat} (h : live (only F w) b) : F b := by
 classical
 obtain ⟨o, h1, h2⟩ := h
 simp only [only, Array.getElem?_mapIdx] at h1
 cases hw : w.heap[b]? with
 | none => rw [hw] at h1;cases h1
 | some o' =>
  rw [hw] at h1
  simp only [Option.map_some, Option.some.injEq] at h1
  by_cases hf : F b
  ·exact hf
  ·rw [if_neg hf] at h1;exact absurd h1.symm h2
theorem only_frz (F : Nat → Prop) (w : World) : Frz (only F w) w := fun b o h1 h2 => by
 have hf := only_live ⟨o, h1, h2⟩
 rw [only_in hf] at h1
 exact h1
def rdH (R : World → Prop) : HP where
 holds F w := (∀ b, F b → b < w.heap.size) ∧ ∃ g : World, (∀ b, live g b → F b) ∧ Frz g w ∧ R g
 stable F w w' h hF := by
  obtain ⟨h1, g, hl, hz, hr⟩ := h
  refine ⟨fun b hb => ?_, g, hl, fun b o ho hd => ?_, hr⟩
  ·have h2 := hF b hb
   rcases Nat.lt_or_ge b w'.heap.size with h | h
   ·exact h
   ·rw [Array.getElem?_eq_none h, Array.getElem?_eq_getElem (h1 b hb)] at h2;cases h2
  ·rw [hF b (hl b ⟨o, ho, hd⟩)];exact hz b o ho hd
 dom F w b h hb := h.1 b hb
def Stays (R : World → Prop) : Prop := ∀ g w, Frz g w → R g → R w
theorem rdH.rd {R : World → Prop} (hm : Stays R) {w : World} (h : (rdH R).rd w) : R w :=
 let ⟨_, _, g, _, hz, hr⟩ := h
 hm g w hz hr
theorem Sep.all {w : World} : ∀ {L : List HP} {F : Nat → Prop}, Sep L F w → ∀ A ∈ L, ∃ F', (∀ b, F' b → F b) ∧ A.holds F' w
 | A :: L, F, ⟨F1, F2, h1, h2, _, h4, h5⟩, B, hB => by
  rcases List.mem_cons.1 hB with rfl | hB
  ·exact ⟨F1, h1, h4⟩
  ·obtain ⟨F', k1, k2⟩ := Sep.all h5 B hB
   exact ⟨F', fun b hb => h2 b (k1 b hb), k2⟩
theorem rdH.of {R : World → Prop} {B : Bs} {w : World} {L1 L : List HP} (h : St B (L1 ++ L) w) (hr : ∀ g, (∀ A ∈ L1, A.rd g) → R g) : St B (rdH R :: L) w := by
 obtain ⟨F, hF, hs⟩ := h.own
 obtain ⟨F1, F2, h1, h2, h3, h4, h5⟩ := hs.split
 refine ⟨h.below, h.frz, F, hF, F1, F2, h1, h2, h3, ⟨fun b hb => (hF b (h1 b hb)).2, only F1 w, fun b => only_live, only_frz F1 w, hr _ fun A hA => ?_⟩, h5⟩
 obtain ⟨F', k1, k2⟩ := h4.all A hA
 exact ⟨F', A.stable _ _ _ k2 fun b hb => only_in (k1 b hb)⟩
end Go.Proofs.YtbpkddpkcnlmhaaGreat
namespace Go.Proofs.YtbpkddpkcnlmhaaGreat
open Go.RowKit
def encI (n : Int) : Value := .int .i64 n
theorem keyI : KeyT Tryz.prog 3 encI := keyInt (iT rfl)
theorem mapH.shape {κ : Type} {enc : κ → Value} {v : Value} {l : List (κ × Value)} {w : World} (h : (mapH enc v l).rd w) : ∃ b, v = .map (some b) :=
 let ⟨_, b, _, _, h1, _⟩ := h
 ⟨b, h1⟩
end Go.Proofs.YtbpkddpkcnlmhaaGreat
namespace Go.Proofs.YtbpkddpkcnlmhaaGreat
open Go.RowKit
set_option maxRecDepth 100000
attribute [local irreducible] Go.Code.wpIn Go.wpListIn Go.Calls Gives Go.Exit.then Go.Exit.inBlock Done ObxE
abbrev placesH (l : List Int) (v : Value) : HP := exH (fun m => mapH encW v m) (fun m => ∀ k, (getL m k).getD (.int .i64 0) = .int .i64 (posI l k : Nat))
theorem places_ex (l : List Int) (v : Value) (w0 : World) (hv : SlT l v w0) (hl : l.length ≤ 1000) :
  Calls Tryz.prog 46 #[v] w0 (Ret fun v w => St w0 [placesH l v] w) :=
 Calls.mono (places_any l v w0 hv hl) (fun _ _ h => h.mono (fun _ _ ⟨_, hm, h⟩ => exH.of h hm))
theorem now_succ {f t : List Int} {i : Nat} {x : Int} (h : f[i]? = some x) : nowF (f.take (i + 1)) t = nowF (f.take i) t ++ (if x ∈ t then [x] else []) := by
 unfold nowF
 rw [take_snocW h, List.filter_append]
 by_cases e : x ∈ t <;> simp [e]
theorem drops_succ {f t : List Int} {i : Nat} {x : Int} (h : f[i]? = some x) : dropsF (f.take (i + 1)) t = dropsF (f.take i) t ++ (if x ∈ t then [] else [(1, x, 0)]) := by
 unfold dropsF
 rw [take_snocW h, List.filter_append, List.map_append]
 by_cases e : x ∈ t <;> simp [e]
theorem now_len (f t : List Int) (i : Nat) : (nowF (f.take i) t).length ≤ i ∧ (dropsF (f.take i) t).length ≤ i := by
 have h : (f.take i).length ≤ i := by rw [List.length_take];omega
 exact ⟨Nat.le_trans (List.length_filter_le _ _) h, by unfold dropsF;rw [List.length_map];exact Nat.le_trans (List.length_filter_le _ _) h⟩
set_option maxHeartbeats 8000000 in
theorem steps_any (lf lt : List Int) (vf vt0 : Value) (w0 : World) (hvf : SlT lf vf w0) (hvt : SlT lt vt0 w0) (hlf : lf.length ≤ 100) (hlt : lt.length ≤ 100) :
  Calls Tryz.prog 26 #[vf, vt0] w0 (Ret fun v w => St w0 [OwT 72 (stepsF (onceI lf) (onceI lt)) v] w) := by
 have hfl := once_len lf lf.length
 have htl := once_len lt lt.length
 obtain ⟨ao, c, rfl, _⟩ := hvt.shape
 refine enterM Tryz.func26 rfl Tryz.ntmps26 rfl (fun a hk => ?_);have hS := St.refl w0
 (repeat' (first|((first|refine wx1 ?_|refine wx2 ?_ ?_<;>intro hp|refine s_end hk ?_)<;>(clear hk a;intro a hk))|((first|refine wx3 ?_;intro w b|refine wx4 ?_;intro w|refine wx5 ?_;intro w v);clear hk hS a;intro hS a hk)|refine wx0 ?_|fail))
 generalize b = b3 at hS hk
 refine wp_drawn 4 mixed (by kernel_rfl) hk hS ?_;clear hk hS a
 (repeat' (first|(show ObxE _ _ _ _ _ _ _ _ _ (_::_) _ _ _;first|refine ox1 ?_|refine ox2 ?_ ?_<;>intro hp)|fail))
 refine' obe_res (fun us a w hk hd hS => ?_) ?_;rotate_left;focus (have hk := Kn.vw hk vwx;exact g_callO hk (hf := by kernel_rfl) (hc := once_any lf vf _ (hS.rdT hvf) (by omega)) (h := fun _ _ h => h))
 (repeat' (first|(show ObxE _ _ _ _ _ _ _ _ _ (_::_) _ _ _;first|refine ox1 ?_|refine ox2 ?_ ?_<;>intro hp)|fail))
 refine' obe_res (fun us a w hk hd hS => ?_) ?_;rotate_left;focus (have hk := Kn.vw hk vwx;exact g_callO hk (hf := by kernel_rfl) (hc := once_any lt _ _ (hS.rdT hvt) (by omega)) (h := fun _ _ h => h))
 refine obe_nil ⟨rfl, ?_⟩;intro us a w hk hS
 simp only [resE, List.cons_append, List.nil_append] at hS
 replace hk := Kn.kp [3, 4, 17, 19] hk
 simp only [HV.of] at hk
 generalize us (0 + 1 + 1 + 1) = vt at hS hk
 generalize us (0 + 1) = v1 at hS hk
 have hfn := once_nodup lf
 have htn := once_nodup lt
 change (onceI lf).length ≤ _ at hfl
 change (onceI lt).length ≤ _ at htl
 replace hfl : (onceI lf).length ≤ 100 := by omega
 replace htl : (onceI lt).length ≤ 100 := by omega
 generalize onceI lf = f at *
 generalize onceI lt = t at *
 clear hlf hlt hvf hvt
 obtain ⟨aovt, cvt, hshp, _⟩ := (OwT.rd (hS.rd (A := OwT 3 _ vt) atx)).shape;subst hshp
 (repeat' (first|((first|refine wx1 ?_|refine wx2 ?_ ?_<;>intro hp|refine s_end hk ?_)<;>(clear hk a;intro a hk))|((first|refine wx3 ?_;intro w b|refine wx4 ?_;intro w|refine wx5 ?_;intro w v);clear hk hS a;intro hS a hk)|refine wx0 ?_|fail))
 refine wp_drawn 5 mixed (by kernel_rfl) hk hS ?_;clear hk hS a
 (repeat' (first|(show ObxE _ _ _ _ _ _ _ _ _ (_::_) _ _ _;first|refine ox1 ?_|refine ox2 ?_ ?_<;>intro hp)|fail))
 refine' obe_res (fun us a w hk hd hS => ?_) ?_;rotate_left;focus (have hk := Kn.vw hk vwx;exact g_callO hk (hf := by kernel_rfl) (hc := places_ex f v1 _ (by first | exact St.rdT hS (by assumption) | exact OwT.rd (hS.rd (A := OwT _ _ _) atx) | assumption) (by omega)) (h := fun _ _ h => h))
 (repeat' (first|(show ObxE _ _ _ _ _ _ _ _ _ (_::_) _ _ _;first|refine ox1 ?_|refine ox2 ?_ ?_<;>intro hp)|fail))
 refine' obe_res (fun us a w hk hd hS => ?_) ?_;rotate_left;focus (have hk := Kn.vw hk vwx;exact g_callO hk (hf := by kernel_rfl) (hc := places_ex t (.slice aovt t.length cvt) _ (by first | exact St.rdT hS (by assumption) | exact OwT.rd (hS.rd (A := OwT _ _ _) atx) | assumption) (by omega)) (h := fun _ _ h => h))
 (repeat' (first|(show ObxE _ _ _ _ _ _ _ _ _ (_::_) _ _ _;first|refine ox1 ?_|refine ox2 ?_ ?_<;>intro hp)|fail))
 refine' obe_res (fun us a w hk hd hS => ?_) ?_;rotate_left;focus (have hk := Kn.vw hk vwx;exact v_alloc hk (oT rfl))
 refine obe_nil ⟨rfl, ?_⟩;intro us a w hk hS
 simp only [resE, List.cons_append, List.nil_append] at hS
 obtain ⟨b5, hb5, hS1⟩ := hS.ptv atx;replace hS := hS1;clear hS1
 replace hk := Kn.kp [0, 3, 4, 5, 21, 23] hk
 simp only [HV.of] at hk
 rw [hb5] at hk
 clear hb5
 generalize us (0 + 1 + 1 + 1) = vw at hS hk
 generalize us (0 + 1) = vm at hS hk
 obtain ⟨mf, hmf, hS1⟩ := St.exH (A := fun m => mapH encW vm m) hS atx
 obtain ⟨mt, hmt, hS2⟩ := St.exH (A := fun m => mapH encW vw m) hS1 atx
 clear hS hS1
 have hS := hS2
 clear hS2
 obtain ⟨bm, rfl⟩ := mapH.shape (hS.rd (A := mapH encW vm mf) atx)
 (repeat' (first|((first|refine wx1 ?_|refine wx2 ?_ ?_<;>intro hp|refine s_end hk ?_)<;>(clear hk a;intro a hk))|((first|refine wx3 ?_;intro w b|refine wx4 ?_;intro w|refine wx5 ?_;intro w v);clear hk hS a;intro hS a hk)|refine wx0 ?_|fail))
 rename_i b7
 generalize b = b8 at hS hk
 replace hS : St w0 [pts b8 [.slice none 0 0] 22, pts b7 [.slice none 0 0] 69, pts b5 [.map (some bm)] 83, mapH encW vw mt, mapH encW (.map (some bm)) mf,
  pts b3 [.slice aovt t.length cvt] 22, OwT 3 t (.slice aovt t.length cvt), OwT 3 f v1] w := hS
 replace hS := (hS.nilT 72 StepW).nilT 3 Int
 replace hk := Kn.kp [3, 5, 6, 7, 8, 24, 25, 26] hk
 refine wp_for f.length (fun i x => [(26, .int .i64 (i : Int))]) (fun i x => [OwT 3 (nowF (f.take i) t) x.1, OwT 72 (dropsF (f.take i) t) x.2, pts b8 [x.1] 22, pts b7 [x.2] 69,
  pts b5 [.map (some bm)] 83, mapH encW vw mt, mapH encW (.map (some bm)) mf, pts b3 [.slice aovt t.length cvt] 22, OwT 3 t (.slice aovt t.length cvt), OwT 3 f v1]) (fun _ _ => True)
  ((.slice none 0 0, .slice none 0 0) : Value × Value) hk skx hS.sb trivial ?_
 clear hk hS a
 rintro i ⟨vn, vs⟩ a w hi hk hS -
 simp only at hk hS
 have hnl := now_len f t i
 by_cases hil : i < f.length
 ·obtain ⟨x, hx⟩ : ∃ x, f[i]? = some x := ⟨_, List.getElem?_eq_getElem hil⟩
  have hst1 := now_succ (t := t) hx
  have hst2 := drops_succ (t := t) hx
  have hpz := pos_zero (l := t) (id := x)
  have hpl := pos_le t x
  (repeat' (first|((first|refine wx1 ?_|refine wx2 ?_ ?_<;>intro hp|refine s_end hk ?_)<;>(clear hk a;intro a hk))|((first|refine wx3 ?_;intro w b|refine wx4 ?_;intro w|refine wx5 ?_;intro w v);clear hk hS a;intro hS a hk)|refine wx0 ?_|fail))
  refine sg hk (g_lookup (k := x) hk (hS.rd (A := mapH encW vw mt) atx) ?_ (mT rfl) keyW (oT rfl));clear hk a;intro a hk
  rw [hmt x] at hk
  by_cases hin : x ∈ t
  ·rw [if_pos hin] at hst1 hst2
   rw [List.append_nil] at hst2
   have h0 : 0 < posI t x := Nat.pos_of_ne_zero (fun h => hpz.1 h hin)
   (repeat' (first|((first|refine wx1 ?_|refine wx2 ?_ ?_<;>intro hp|refine s_end hk ?_)<;>(clear hk a;intro a hk))|((first|refine wx3 ?_;intro w b|refine wx4 ?_;intro w|refine wx5 ?_;intro w v);clear hk hS a;intro hS a hk)|refine wx0 ?_|fail))
   obtain ⟨aov, cv, hshp, _⟩ := (OwT.rd (hS.rd (A := OwT 3 _ v) atx)).shape;subst hshp
   (repeat' (first|((first|refine wx1 ?_|refine wx2 ?_ ?_<;>intro hp|refine s_end hk ?_)<;>(clear hk a;intro a hk))|((first|refine wx3 ?_;intro w b|refine wx4 ?_;intro w|refine wx5 ?_;intro w v);clear hk hS a;intro hS a hk)|refine wx0 ?_|fail))
   rw [← hst1, ← hst2] at hS
   exact ⟨hil, (_, _), hk.sd, hS.sb, trivial⟩
  ·rw [if_neg hin] at hst1 hst2
   rw [List.append_nil] at hst1
   have h0 : posI t x = 0 := hpz.2 hin
   (repeat' (first|((first|refine wx1 ?_|refine wx2 ?_ ?_<;>intro hp|refine s_end hk ?_)<;>(clear hk a;intro a hk))|((first|refine wx3 ?_;intro w b|refine wx4 ?_;intro w|refine wx5 ?_;intro w v);clear hk hS a;intro hS a hk)|refine wx0 ?_|fail))
   refine sg hk (g_bsT (xs := [((1, x, 0) : StepW)]) (m := 0) hk hS ?_ (hT := eT rfl) (hE := zT rfl) (hz := oT rfl));clear hk hS a;intro w v hS a hk;refine sg hk (g_appD hk hS ?_ (hT := eT rfl) (hTx := eT rfl) (hE := zT rfl) (hz := oT rfl) (hzs := rfl) (hby := bT rfl) (hbytes := (by simp only [List.length_cons, List.length_nil];omega)) (h63 := (by simp only [List.length_cons, List.length_nil, maxLen];omega)));clear hk hS a;intro w v hS a hk
   obtain ⟨aov, cv, hshp, _⟩ := (OwT.rd (hS.rd (A := OwT 72 _ v) atx)).shape;subst hshp
   (repeat' (first|((first|refine wx1 ?_|refine wx2 ?_ ?_<;>intro hp|refine s_end hk ?_)<;>(clear hk a;intro a hk))|((first|refine wx3 ?_;intro w b|refine wx4 ?_;intro w|refine wx5 ?_;intro w v);clear hk hS a;intro hS a hk)|refine wx0 ?_|fail))
   rw [← hst1, ← hst2] at hS
   exact ⟨hil, (_, _), hk.sd, hS.sb, trivial⟩
 ·have : i = f.length := by omega
  subst this
  rw [List.take_length] at hS
  (repeat' (first|((first|refine wx1 ?_|refine wx2 ?_ ?_<;>intro hp|refine s_end hk ?_)<;>(clear hk a;intro a hk))|((first|refine wx3 ?_;intro w b|refine wx4 ?_;intro w|refine wx5 ?_;intro w v);clear hk hS a;intro hS a hk)|refine wx0 ?_|fail))
  refine sg hk (g_callO hk (hf := by kernel_rfl) (hc := kept_any f t mf (.map (some bm)) (.slice aovt t.length cvt) _ hmf (hS.rd (A := mapH encW (.map (some bm)) mf) atx) (by first | exact St.rdT hS (by assumption) | exact OwT.rd (hS.rd (A := OwT _ _ _) atx) | assumption) (by omega) (by omega)) (h := ?_));clear hk a;rintro vst w ⟨ms, hms, hS1⟩ a hk;replace hS := hS.call hS1;clear hS1
  rw [List.cons_append, List.nil_append] at hS
  obtain ⟨bs, rfl⟩ := mapH.shape (hS.rd (A := mapH encW vst ms) atx)
  (repeat' (first|((first|refine wx1 ?_|refine wx2 ?_ ?_<;>intro hp|refine s_end hk ?_)<;>(clear hk a;intro a hk))|((first|refine wx3 ?_;intro w b|refine wx4 ?_;intro w|refine wx5 ?_;intro w v);clear hk hS a;intro hS a hk)|refine wx0 ?_|fail))
  generalize b = b11 at hS hk
  refine sg hk (g_callO hk (hf := by kernel_rfl) (hc := backw_any hS) (h := ?_));clear hk hS a;rintro _ w ⟨bv, rfl, hS⟩ a hk
  (repeat' (first|((first|refine wx1 ?_|refine wx2 ?_ ?_<;>intro hp|refine s_end hk ?_)<;>(clear hk a;intro a hk))|((first|refine wx3 ?_;intro w b|refine wx4 ?_;intro w|refine wx5 ?_;intro w v);clear hk hS a;intro hS a hk)|refine wx0 ?_|fail))
  replace hk := Kn.kp [3, 5, 7, 8, 11, 48] hk
  replace hS : St w0 [pts bv [.slice aovt t.length cvt] 22, pts b11 [.map (some bs)] 83, mapH encW (.map (some bs)) ms, OwT 3 (nowF f t) vn, OwT 72 (dropsF f t) vs, pts b8 [vn] 22, pts b7 [vs] 69,
   pts b5 [.map (some bm)] 83, mapH encW vw mt, mapH encW (.map (some bm)) mf, pts b3 [.slice aovt t.length cvt] 22, OwT 3 t (.slice aovt t.length cvt), OwT 3 f v1] w := hS
  have hse := st_end f t
  refine wp_rangeB (xs := t) (v := .slice aovt t.length cvt) (bv := bv) (fun i x => [OwT 3 (stW f t i).1 x.1, OwT 72 (stW f t i).2 x.2, pts b8 [x.1] 22, pts b7 [x.2] 69,
   pts b11 [.map (some bs)] 83, mapH encW (.map (some bs)) ms, pts b5 [.map (some bm)] 83, mapH encW (.map (some bm)) mf, pts b3 [.slice aovt t.length cvt] 22]) (fun _ _ => True) ((vn, vs) : Value × Value) hk (by rw [hse];exact hS.sb) trivial (by omega) ?_ ?_
  ·clear hS hk a
   rintro i ⟨vn, vs⟩ id fn bl D tmps w hid hi - hS a hk
   simp only at hS
   have hsl := st_len f t (i + 1)
   (repeat' (first|((first|refine wx1 ?_|refine wx2 ?_ ?_<;>intro hp|refine s_end hk ?_)<;>(clear hk a;intro a hk))|((first|refine wx3 ?_;intro w b|refine wx4 ?_;intro w|refine wx5 ?_;intro w v);clear hk hS a;intro hS a hk)|refine wx0 ?_|fail))
   refine q_begin hS atx (fun w hS => ?_)
   (repeat' (first|((first|refine wx1 ?_|refine wx2 ?_ ?_<;>intro hp|refine s_end hk ?_)<;>(clear hk a;intro a hk))|((first|refine wx3 ?_;intro w b|refine wx4 ?_;intro w|refine wx5 ?_;intro w v);clear hk hS a;intro hS a hk)|refine wx0 ?_|fail))
   refine sg hk (g_lookup (k := id) hk (hS.rd (A := mapH encW (.map (some bs)) ms) atx) ?_ (mT rfl) keyW (oT rfl));clear hk a;intro a hk
   rw [hms id] at hk
   by_cases hs : id ∈ staysF f t
   ·rw [if_pos hs] at hk
    rw [← st_stays hid hs] at hS
    (repeat' (first|((first|refine wx1 ?_|refine wx2 ?_ ?_<;>intro hp|refine s_end hk ?_)<;>(clear hk a;intro a hk))|((first|refine wx3 ?_;intro w b|refine wx4 ?_;intro w|refine wx5 ?_;intro w v);clear hk hS a;intro hS a hk)|refine wx0 ?_|fail))
    exact q_roundN hS atx (fun w hS => ⟨_, rfl, rfl, (vn, vs), hS.sb, trivial⟩)
   ·rw [if_neg hs] at hk
    have hst := st_put hid hs
    have hpz := pos_zero (l := f) (id := id)
    have hpl := pos_le f id
    (repeat' (first|((first|refine wx1 ?_|refine wx2 ?_ ?_<;>intro hp|refine s_end hk ?_)<;>(clear hk a;intro a hk))|((first|refine wx3 ?_;intro w b|refine wx4 ?_;intro w|refine wx5 ?_;intro w v);clear hk hS a;intro hS a hk)|refine wx0 ?_|fail))
    refine sg hk (g_lookup (k := id) hk (hS.rd (A := mapH encW (.map (some bm)) mf) atx) ?_ (mT rfl) keyW (oT rfl));clear hk a;intro a hk
    rw [hmf id] at hk
    by_cases hin : id ∈ f
    ·have h0 : 0 < posI f id := Nat.pos_of_ne_zero (fun h => hpz.1 h hin)
     have hless : lessF f (stW f t (i + 1)).1 id = woF (stW f t (i + 1)).1 id := by unfold lessF;rw [if_pos hin]
     rw [if_pos hin] at hst
     (repeat' (first|((first|refine wx1 ?_|refine wx2 ?_ ?_<;>intro hp|refine s_end hk ?_)<;>(clear hk a;intro a hk))|((first|refine wx3 ?_;intro w b|refine wx4 ?_;intro w|refine wx5 ?_;intro w v);clear hk hS a;intro hS a hk)|refine wx0 ?_|fail))
     refine sg hk (g_callO hk (hf := by kernel_rfl) (hc := out_any id (v := vn) (hS.sub (.cons (A := OwT 3 (stW f t (i + 1)).1 vn) atx .refl)) (by omega)) (h := ?_));clear hk hS a;intro vr w hS a hk
     rw [← hless] at hS
     obtain ⟨aovr, cvr, hshp, _⟩ := (OwT.rd (hS.rd (A := OwT 3 _ vr) atx)).shape;subst hshp
     have hXl := less_len f (stW f t (i + 1)).1 id
     have hnx : ∀ y, t[i + 1]? = some y → y ∈ lessF f (stW f t (i + 1)).1 id := fun y hy => next_in htn hid hy
     generalize lessF f (stW f t (i + 1)).1 id = X at *
     by_cases hlt1 : i + 1 < t.length
     ·obtain ⟨y, hy⟩ : ∃ y, t[i + 1]? = some y := ⟨_, List.getElem?_eq_getElem hlt1⟩
      obtain ⟨hix, hip⟩ := idx_in (hnx y hy)
      have hpl : placeF t X i = (X.idxOf y : Nat) := by unfold placeF;rw [hy];exact hix
      rw [hpl] at hst
      generalize X.idxOf y = p at *
      (repeat' (first|((first|refine wx1 ?_|refine wx2 ?_ ?_<;>intro hp|refine s_end hk ?_)<;>(clear hk a;intro a hk))|((first|refine wx3 ?_;intro w b|refine wx4 ?_;intro w|refine wx5 ?_;intro w v);clear hk hS a;intro hS a hk)|refine wx0 ?_|fail))
      refine wp_drawn 7 mixed (by kernel_rfl) hk hS ?_;clear hk hS a
      (repeat' (first|(show ObxE _ _ _ _ _ _ _ _ _ (_::_) _ _ _;first|refine ox1 ?_|refine ox2 ?_ ?_<;>intro hp)|fail))
      refine' obe_val (fun us a w hk hd hS => ?_) ?_;rotate_left;focus (have hk := Kn.vw hk vwx;exact g_callO hk (hf := by kernel_rfl) (hc := index_any X y _ _ (by first | exact St.rdT hS (by assumption) | exact OwT.rd (hS.rd (A := OwT _ _ _) atx) | assumption) (by omega)) (h := fun _ _ h => h))
      refine obe_nil ⟨rfl, ?_⟩;intro us a w hk hS
      rw [hix] at hk
      simp only [resE, List.cons_append, List.nil_append] at hS
      (repeat' (first|((first|refine wx1 ?_|refine wx2 ?_ ?_<;>intro hp|refine s_end hk ?_)<;>(clear hk a;intro a hk))|((first|refine wx3 ?_;intro w b|refine wx4 ?_;intro w|refine wx5 ?_;intro w v);clear hk hS a;intro hS a hk)|refine wx0 ?_|fail))
      refine sg hk (g_callO hk (hf := by kernel_rfl) (hc := put_any id (i := p) (vl := (.slice aovr X.length cvr)) (hS.sub (.cons (A := OwT 3 X (.slice aovr X.length cvr)) atx .refl)) (by omega) (by omega)) (h := ?_));clear hk hS a;intro vr w hS a hk
      obtain ⟨aovr, cvr, hshp, _⟩ := (OwT.rd (hS.rd (A := OwT 3 _ vr) atx)).shape;subst hshp
      (repeat' (first|((first|refine wx1 ?_|refine wx2 ?_ ?_<;>intro hp|refine s_end hk ?_)<;>(clear hk a;intro a hk))|((first|refine wx3 ?_;intro w b|refine wx4 ?_;intro w|refine wx5 ?_;intro w v);clear hk hS a;intro hS a hk)|refine wx0 ?_|fail))
      refine sg hk (g_bsT (xs := [((3, id, (p : Int)) : StepW)]) (m := 0) hk hS ?_ (hT := eT rfl) (hE := zT rfl) (hz := oT rfl));clear hk hS a;intro w v hS a hk;refine sg hk (g_appD hk hS ?_ (hT := eT rfl) (hTx := eT rfl) (hE := zT rfl) (hz := oT rfl) (hzs := rfl) (hby := bT rfl) (hbytes := (by simp only [List.length_cons, List.length_nil];omega)) (h63 := (by simp only [List.length_cons, List.length_nil, maxLen];omega)));clear hk hS a;intro w v hS a hk
      obtain ⟨aov, cv, hshp, _⟩ := (OwT.rd (hS.rd (A := OwT 72 _ v) atx)).shape;subst hshp
      (repeat' (first|((first|refine wx1 ?_|refine wx2 ?_ ?_<;>intro hp|refine s_end hk ?_)<;>(clear hk a;intro a hk))|((first|refine wx3 ?_;intro w b|refine wx4 ?_;intro w|refine wx5 ?_;intro w v);clear hk hS a;intro hS a hk)|refine wx0 ?_|fail))
      have e1 : (stW f t i).1 = insF X (p) id := by rw [hst];simp
      have e2 : (stW f t i).2 = (stW f t (i + 1)).2 ++ [((3, id, (p : Int)) : StepW)] := by rw [hst]
      rw [← e1, ← e2] at hS
      exact q_roundN hS atx (fun w hS => ⟨_, rfl, rfl, (_, _), hS.sb, trivial⟩)
     ·have hnil : t[i + 1]? = none := List.getElem?_eq_none (by omega)
      have hpl : placeF t X i = (X.length : Nat) := by unfold placeF;rw [hnil]
      rw [hpl] at hst
      (repeat' (first|((first|refine wx1 ?_|refine wx2 ?_ ?_<;>intro hp|refine s_end hk ?_)<;>(clear hk a;intro a hk))|((first|refine wx3 ?_;intro w b|refine wx4 ?_;intro w|refine wx5 ?_;intro w v);clear hk hS a;intro hS a hk)|refine wx0 ?_|fail))
      refine sg hk (g_callO hk (hf := by kernel_rfl) (hc := put_any id (i := X.length) (vl := (.slice aovr X.length cvr)) (hS.sub (.cons (A := OwT 3 X (.slice aovr X.length cvr)) atx .refl)) (by omega) (by omega)) (h := ?_));clear hk hS a;intro vr w hS a hk
      obtain ⟨aovr, cvr, hshp, _⟩ := (OwT.rd (hS.rd (A := OwT 3 _ vr) atx)).shape;subst hshp
      (repeat' (first|((first|refine wx1 ?_|refine wx2 ?_ ?_<;>intro hp|refine s_end hk ?_)<;>(clear hk a;intro a hk))|((first|refine wx3 ?_;intro w b|refine wx4 ?_;intro w|refine wx5 ?_;intro w v);clear hk hS a;intro hS a hk)|refine wx0 ?_|fail))
      refine sg hk (g_bsT (xs := [((3, id, (X.length : Int)) : StepW)]) (m := 0) hk hS ?_ (hT := eT rfl) (hE := zT rfl) (hz := oT rfl));clear hk hS a;intro w v hS a hk;refine sg hk (g_appD hk hS ?_ (hT := eT rfl) (hTx := eT rfl) (hE := zT rfl) (hz := oT rfl) (hzs := rfl) (hby := bT rfl) (hbytes := (by simp only [List.length_cons, List.length_nil];omega)) (h63 := (by simp only [List.length_cons, List.length_nil, maxLen];omega)));clear hk hS a;intro w v hS a hk
      obtain ⟨aov, cv, hshp, _⟩ := (OwT.rd (hS.rd (A := OwT 72 _ v) atx)).shape;subst hshp
      (repeat' (first|((first|refine wx1 ?_|refine wx2 ?_ ?_<;>intro hp|refine s_end hk ?_)<;>(clear hk a;intro a hk))|((first|refine wx3 ?_;intro w b|refine wx4 ?_;intro w|refine wx5 ?_;intro w v);clear hk hS a;intro hS a hk)|refine wx0 ?_|fail))
      have e1 : (stW f t i).1 = insF X (X.length) id := by rw [hst];simp
      have e2 : (stW f t i).2 = (stW f t (i + 1)).2 ++ [((3, id, (X.length : Int)) : StepW)] := by rw [hst]
      rw [← e1, ← e2] at hS
      exact q_roundN hS atx (fun w hS => ⟨_, rfl, rfl, (_, _), hS.sb, trivial⟩)
    ·have h0 : posI f id = 0 := hpz.2 hin
     have hless : lessF f (stW f t (i + 1)).1 id = (stW f t (i + 1)).1 := by unfold lessF;rw [if_neg hin]
     rw [if_neg hin] at hst
     rw [← hless] at hS
     have hXl := less_len f (stW f t (i + 1)).1 id
     have hnx : ∀ y, t[i + 1]? = some y → y ∈ lessF f (stW f t (i + 1)).1 id := fun y hy => next_in htn hid hy
     generalize lessF f (stW f t (i + 1)).1 id = X at *
     by_cases hlt1 : i + 1 < t.length
     ·obtain ⟨y, hy⟩ : ∃ y, t[i + 1]? = some y := ⟨_, List.getElem?_eq_getElem hlt1⟩
      obtain ⟨hix, hip⟩ := idx_in (hnx y hy)
      have hpl : placeF t X i = (X.idxOf y : Nat) := by unfold placeF;rw [hy];exact hix
      rw [hpl] at hst
      generalize X.idxOf y = p at *
      (repeat' (first|((first|refine wx1 ?_|refine wx2 ?_ ?_<;>intro hp|refine s_end hk ?_)<;>(clear hk a;intro a hk))|((first|refine wx3 ?_;intro w b|refine wx4 ?_;intro w|refine wx5 ?_;intro w v);clear hk hS a;intro hS a hk)|refine wx0 ?_|fail))
      refine wp_drawn 7 mixed (by kernel_rfl) hk hS ?_;clear hk hS a
      (repeat' (first|(show ObxE _ _ _ _ _ _ _ _ _ (_::_) _ _ _;first|refine ox1 ?_|refine ox2 ?_ ?_<;>intro hp)|fail))
      refine' obe_val (fun us a w hk hd hS => ?_) ?_;rotate_left;focus (have hk := Kn.vw hk vwx;exact g_callO hk (hf := by kernel_rfl) (hc := index_any X y _ _ (by first | exact St.rdT hS (by assumption) | exact OwT.rd (hS.rd (A := OwT _ _ _) atx) | assumption) (by omega)) (h := fun _ _ h => h))
      refine obe_nil ⟨rfl, ?_⟩;intro us a w hk hS
      rw [hix] at hk
      simp only [resE, List.cons_append, List.nil_append] at hS
      (repeat' (first|((first|refine wx1 ?_|refine wx2 ?_ ?_<;>intro hp|refine s_end hk ?_)<;>(clear hk a;intro a hk))|((first|refine wx3 ?_;intro w b|refine wx4 ?_;intro w|refine wx5 ?_;intro w v);clear hk hS a;intro hS a hk)|refine wx0 ?_|fail))
      refine sg hk (g_callO hk (hf := by kernel_rfl) (hc := put_any id (i := p) (vl := vn) (hS.sub (.cons (A := OwT 3 X vn) atx .refl)) (by omega) (by omega)) (h := ?_));clear hk hS a;intro vr w hS a hk
      obtain ⟨aovr, cvr, hshp, _⟩ := (OwT.rd (hS.rd (A := OwT 3 _ vr) atx)).shape;subst hshp
      (repeat' (first|((first|refine wx1 ?_|refine wx2 ?_ ?_<;>intro hp|refine s_end hk ?_)<;>(clear hk a;intro a hk))|((first|refine wx3 ?_;intro w b|refine wx4 ?_;intro w|refine wx5 ?_;intro w v);clear hk hS a;intro hS a hk)|refine wx0 ?_|fail))
      refine sg hk (g_bsT (xs := [((2, id, (p : Int)) : StepW)]) (m := 0) hk hS ?_ (hT := eT rfl) (hE := zT rfl) (hz := oT rfl));clear hk hS a;intro w v hS a hk;refine sg hk (g_appD hk hS ?_ (hT := eT rfl) (hTx := eT rfl) (hE := zT rfl) (hz := oT rfl) (hzs := rfl) (hby := bT rfl) (hbytes := (by simp only [List.length_cons, List.length_nil];omega)) (h63 := (by simp only [List.length_cons, List.length_nil, maxLen];omega)));clear hk hS a;intro w v hS a hk
      obtain ⟨aov, cv, hshp, _⟩ := (OwT.rd (hS.rd (A := OwT 72 _ v) atx)).shape;subst hshp
      (repeat' (first|((first|refine wx1 ?_|refine wx2 ?_ ?_<;>intro hp|refine s_end hk ?_)<;>(clear hk a;intro a hk))|((first|refine wx3 ?_;intro w b|refine wx4 ?_;intro w|refine wx5 ?_;intro w v);clear hk hS a;intro hS a hk)|refine wx0 ?_|fail))
      have e1 : (stW f t i).1 = insF X (p) id := by rw [hst];simp
      have e2 : (stW f t i).2 = (stW f t (i + 1)).2 ++ [((2, id, (p : Int)) : StepW)] := by rw [hst]
      rw [← e1, ← e2] at hS
      exact q_roundN hS atx (fun w hS => ⟨_, rfl, rfl, (_, _), hS.sb, trivial⟩)
     ·have hnil : t[i + 1]? = none := List.getElem?_eq_none (by omega)
      have hpl : placeF t X i = (X.length : Nat) := by unfold placeF;rw [hnil]
      rw [hpl] at hst
      (repeat' (first|((first|refine wx1 ?_|refine wx2 ?_ ?_<;>intro hp|refine s_end hk ?_)<;>(clear hk a;intro a hk))|((first|refine wx3 ?_;intro w b|refine wx4 ?_;intro w|refine wx5 ?_;intro w v);clear hk hS a;intro hS a hk)|refine wx0 ?_|fail))
      refine sg hk (g_callO hk (hf := by kernel_rfl) (hc := put_any id (i := X.length) (vl := vn) (hS.sub (.cons (A := OwT 3 X vn) atx .refl)) (by omega) (by omega)) (h := ?_));clear hk hS a;intro vr w hS a hk
      obtain ⟨aovr, cvr, hshp, _⟩ := (OwT.rd (hS.rd (A := OwT 3 _ vr) atx)).shape;subst hshp
      (repeat' (first|((first|refine wx1 ?_|refine wx2 ?_ ?_<;>intro hp|refine s_end hk ?_)<;>(clear hk a;intro a hk))|((first|refine wx3 ?_;intro w b|refine wx4 ?_;intro w|refine wx5 ?_;intro w v);clear hk hS a;intro hS a hk)|refine wx0 ?_|fail))
      refine sg hk (g_bsT (xs := [((2, id, (X.length : Int)) : StepW)]) (m := 0) hk hS ?_ (hT := eT rfl) (hE := zT rfl) (hz := oT rfl));clear hk hS a;intro w v hS a hk;refine sg hk (g_appD hk hS ?_ (hT := eT rfl) (hTx := eT rfl) (hE := zT rfl) (hz := oT rfl) (hzs := rfl) (hby := bT rfl) (hbytes := (by simp only [List.length_cons, List.length_nil];omega)) (h63 := (by simp only [List.length_cons, List.length_nil, maxLen];omega)));clear hk hS a;intro w v hS a hk
      obtain ⟨aov, cv, hshp, _⟩ := (OwT.rd (hS.rd (A := OwT 72 _ v) atx)).shape;subst hshp
      (repeat' (first|((first|refine wx1 ?_|refine wx2 ?_ ?_<;>intro hp|refine s_end hk ?_)<;>(clear hk a;intro a hk))|((first|refine wx3 ?_;intro w b|refine wx4 ?_;intro w|refine wx5 ?_;intro w v);clear hk hS a;intro hS a hk)|refine wx0 ?_|fail))
      have e1 : (stW f t i).1 = insF X (X.length) id := by rw [hst];simp
      have e2 : (stW f t i).2 = (stW f t (i + 1)).2 ++ [((2, id, (X.length : Int)) : StepW)] := by rw [hst]
      rw [← e1, ← e2] at hS
      exact q_roundN hS atx (fun w hS => ⟨_, rfl, rfl, (_, _), hS.sb, trivial⟩)
  ·rintro ⟨vn, vs⟩ D w - hS a hk
   simp only at hS
   (repeat' (first|((first|refine wx1 ?_|refine wx2 ?_ ?_<;>intro hp|refine s_end hk ?_)<;>(clear hk a;intro a hk))|((first|refine wx3 ?_;intro w b|refine wx4 ?_;intro w|refine wx5 ?_;intro w v);clear hk hS a;intro hS a hk)|refine wx0 ?_|fail))
   exact done1M hk hS atx (fun w hS => hS.sb)
end Go.Proofs.YtbpkddpkcnlmhaaGreat
namespace Go.Proofs.YtbpkddpkcnlmhaaGreat
open Go.RowKit
set_option maxRecDepth 100000
attribute [local irreducible] Go.Code.wpIn Go.wpListIn Go.Calls Gives Go.Exit.then Go.Exit.inBlock Done ObxE
set_option maxHeartbeats 1000000 in
theorem lens_any (l : List Int) (va : Value) (w0 : World) (ha : SlT l va w0) (hl : l.length ≤ 1000) :
  Calls Tryz.prog 36 #[va] w0 (Ret fun v w => St w0 [OwT 3 (lensF l l.length) v] w) := by
 refine enter Tryz.func36 rfl Tryz.ntmps36 rfl (fun a hk => ?_);have hS := St.refl w0
 (repeat' (first|((first|refine wx1 ?_|refine wx2 ?_ ?_<;>intro hp|refine s_end hk ?_)<;>(clear hk a;intro a hk))|((first|refine wx3 ?_;intro w b|refine wx4 ?_;intro w|refine wx5 ?_;intro w v);clear hk hS a;intro hS a hk)|refine wx0 ?_|fail))
 refine sg hk (g_bs0 Int hS ?_ (hT := eT rfl) (hE := zT rfl));clear hk hS a;intro w v hS a hk
 (repeat' (first|((first|refine wx1 ?_|refine wx2 ?_ ?_<;>intro hp|refine s_end hk ?_)<;>(clear hk a;intro a hk))|((first|refine wx3 ?_;intro w b|refine wx4 ?_;intro w|refine wx5 ?_;intro w v);clear hk hS a;intro hS a hk)|refine wx0 ?_|fail))
 replace hk := Kn.kp [0, 3, 9, 10, 11] hk
 refine wp_for l.length (fun i v => [(3, v), (11, .int .i64 (i : Int))]) (fun i v => [OwT 3 (lensF l i) v]) (fun _ _ => True) v hk skx hS trivial ?_
 clear hk hS a
 rintro i vo a w hi hk hS -
 have hll := lens_len l i
 (repeat' (first|((first|refine wx1 ?_|refine wx2 ?_ ?_<;>intro hp|refine s_end hk ?_)<;>(clear hk a;intro a hk))|((first|refine wx3 ?_;intro w b|refine wx4 ?_;intro w|refine wx5 ?_;intro w v);clear hk hS a;intro hS a hk)|refine wx0 ?_|fail))
 ·replace hk := Kn.kp [0, 3, 4, 5, 6, 7, 9, 10, 11] hk
  refine wp_for i (fun k _ => [(6, .int .i64 (lnK l (ln l) (at_ l i) k : Nat)), (7, .int .i64 (k : Int))]) (fun _ _ => [OwT 3 (lensF l i) vo]) (fun _ _ => True) () hk skx hS trivial ?_
  clear hk hS a
  rintro k _ a w hk' hk hS -
  have hnk := (lnK_spec l (ln l) (at_ l i) k).1
  have hnk2 := lnK_le l (at_ l i) k
  by_cases hki : k < i
  ·have e1 := lens_get (l := l) (i := i) (k := k) (by omega)
   have e2 := ln_le l k k (Nat.le_refl _)
   have hil : i < l.length := by omega
   have s := lnK_step l (at_ l i) k
   (repeat' (first|((first|refine wx1 ?_|refine wx2 ?_ ?_<;>intro hp|refine s_end hk ?_)<;>(clear hk a;intro a hk))|((first|refine wx3 ?_;intro w b|refine wx4 ?_;intro w|refine wx5 ?_;intro w v);clear hk hS a;intro hS a hk)|refine wx0 ?_|fail))
   ·rw [at_get hil, at_get (by omega)] at *
    rw [if_pos ⟨by assumption, by omega⟩] at s
    rw [e1, show ((ln l k : Nat) : Int) + 1 = ((lnK l (ln l) (at_ l i) (k + 1) : Nat) : Int) by omega] at hk
    exact ⟨by omega, (), hk.subD (by (repeat (first | exact trivial | refine ⟨rfl, ?_⟩ | refine ⟨trivial, ?_⟩));fail_if_success focus skip), hS, trivial⟩
   ·rw [at_get hil, at_get (by omega)] at *
    rw [if_neg (fun h => by omega)] at s
    rw [← s] at hk
    exact ⟨by omega, (), hk.subD (by (repeat (first | exact trivial | refine ⟨rfl, ?_⟩ | refine ⟨trivial, ?_⟩));fail_if_success focus skip), hS, trivial⟩
   ·rw [at_get hil, at_get (by omega)] at *
    rw [if_neg (fun h => by omega)] at s
    rw [← s] at hk
    exact ⟨by omega, (), hk.subD (by (repeat (first | exact trivial | refine ⟨rfl, ?_⟩ | refine ⟨trivial, ?_⟩));fail_if_success focus skip), hS, trivial⟩
  ·(repeat' (first|((first|refine wx1 ?_|refine wx2 ?_ ?_<;>intro hp|refine s_end hk ?_)<;>(clear hk a;intro a hk))|((first|refine wx3 ?_;intro w b|refine wx4 ?_;intro w|refine wx5 ?_;intro w v);clear hk hS a;intro hS a hk)|refine wx0 ?_|fail))
   have : k = i := by omega
   subst this
   rw [← ln_eq, ← lens_succ] at hS
   exact ⟨by omega, _, hk.subD (by (repeat (first | exact trivial | refine ⟨rfl, ?_⟩ | refine ⟨trivial, ?_⟩));fail_if_success focus skip), hS, trivial⟩
 ·have : i = l.length := by omega
  subst this
  exact done1 hk (h := hS)
theorem refLen_any (l : List Int) (va : Value) (w0 : World) (ha : SlT l va w0) (hl : l.length ≤ 1000) :
  Calls Tryz.prog 18 #[va] w0 (Ret fun v w => v = .int .i64 (top l l.length) ∧ St w0 [] w) := by
 refine enter Tryz.func18 rfl Tryz.ntmps18 rfl (fun a hk => ?_);have hS := St.refl w0
 (repeat' (first|((first|refine wx1 ?_|refine wx2 ?_ ?_<;>intro hp|refine s_end hk ?_)<;>(clear hk a;intro a hk))|((first|refine wx3 ?_;intro w b|refine wx4 ?_;intro w|refine wx5 ?_;intro w v);clear hk hS a;intro hS a hk)|refine wx0 ?_|fail))
 refine sg hk (g_callO hk (hf := by kernel_rfl) (hc := lens_any l va _ (hS.rdT ha) hl) (h := ?_));clear hk a;rintro vr w hS1 a hk;replace hS := hS.call hS1;clear hS1
 (repeat' (first|((first|refine wx1 ?_|refine wx2 ?_ ?_<;>intro hp|refine s_end hk ?_)<;>(clear hk a;intro a hk))|((first|refine wx3 ?_;intro w b|refine wx4 ?_;intro w|refine wx5 ?_;intro w v);clear hk hS a;intro hS a hk)|refine wx0 ?_|fail))
 have hll := lens_len l l.length
 replace hk := Kn.kp [3, 7, 8, 9] hk
 refine wp_for l.length (fun i _ => [(3, .int .i64 (top l i : Nat)), (9, .int .i64 (i : Int))]) (fun _ _ => [OwT 3 (lensF l l.length) vr]) (fun _ _ => True) () hk skx hS trivial ?_
 clear hk hS a
 rintro i _ a w hi hk hS -
 (repeat' (first|((first|refine wx1 ?_|refine wx2 ?_ ?_<;>intro hp|refine s_end hk ?_)<;>(clear hk a;intro a hk))|((first|refine wx3 ?_;intro w b|refine wx4 ?_;intro w|refine wx5 ?_;intro w v);clear hk hS a;intro hS a hk)|refine wx0 ?_|fail))
 ·rw [lens_get] at hk
  rw [show max ((top l i : Nat) : Int) ((ln l i : Nat) : Int) = ((top l (i + 1) : Nat) : Int) by simp only [top];omega] at hk
  exact ⟨by omega, (), hk.subD (by (repeat (first | exact trivial | refine ⟨rfl, ?_⟩ | refine ⟨trivial, ?_⟩));fail_if_success focus skip), hS, trivial⟩
 ·have : i = l.length := by omega
  subst this
  exact done1 hk (h := ⟨rfl, hS.nil⟩)
end Go.Proofs.YtbpkddpkcnlmhaaGreat
namespace Go.Proofs.YtbpkddpkcnlmhaaGreat
open Go.RowKit
set_option maxRecDepth 100000
attribute [local irreducible] Go.Code.wpIn Go.wpListIn Go.Calls Gives Go.Exit.then Go.Exit.inBlock Done ObxE
def oldR (f t : List Int) : List Int := (idsF f t).map (fun x => idxI f x)
end Go.Proofs.YtbpkddpkcnlmhaaGreat
namespace Go.Proofs.YtbpkddpkcnlmhaaGreat
open Go.RowKit
set_option maxRecDepth 100000
attribute [local irreducible] Go.Code.wpIn Go.wpListIn Go.Calls Gives Go.Exit.then Go.Exit.inBlock Done ObxE
theorem wo_out {X : List Int} {id : Int} (h : id ∉ X) : woF X id = X := by
 unfold woF
 rw [List.filter_eq_self]
 intro a ha
 have : a ≠ id := fun e => h (e ▸ ha)
 simp [this]
end Go.Proofs.YtbpkddpkcnlmhaaGreat
