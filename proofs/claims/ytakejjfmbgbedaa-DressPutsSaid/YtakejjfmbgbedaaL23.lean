/- A range over a function: its record, its rounds, what stands behind it. -/
import Derived.Test.YtakejjfmbgbedaaL22
import Derived.RangeFuncRecord
import Derived.Lib.SliceRun
import Derived.WalkSpells
namespace Go.Proofs.Ytakejjfmbgbedaa
variable {df : List Deferred} {rr : Option Nat}
open Go.RowKit

/-- A block that is o. -/
def obj (b : Nat) (o : Obj) : HP where
  holds F w := F b ∧ (∀ c, F c → c = b) ∧ w.heap[b]? = some o
  stable := fun F w w' ⟨h1, h2, h3⟩ h => ⟨h1, h2, by rw [h b h1]; exact h3⟩
  dom := fun F w c ⟨h1, h2, h3⟩ hc => by
    rw [h2 c hc]
    rcases Nat.lt_or_ge b w.heap.size with h' | h'
    · exact h'
    · rw [Array.getElem?_eq_none h'] at h3; cases h3

theorem obj.block {b : Nat} {o : Obj} {w : World} (h : (obj b o).rd w) : w.heap[b]? = some o :=
  let ⟨_, h⟩ := h
  h.2.2

theorem St.newObj {B : Bs} {w : World} {L : List HP} (h : St B L w) (o : Obj) : St B (obj w.heap.size o :: L) (w.alloc o) :=
  h.new (As := [_]) ((Below.refl _ _).alloc (Nat.le_refl _) _) ⟨fun b => b = w.heap.size, fun b hb => by subst hb; simp, Sep.one ⟨rfl, fun _ h => h, World.alloc_heap_new w o⟩⟩

theorem St.putObj {B : Bs} {w : World} {L L' : List HP} {b : Nat} {o : Obj} (h : St B L w) (hat : At (obj b o) L L') (o' : Obj) : St B (obj b o' :: L') (w.putObj b o') := by
  refine h.change (As := [_]) hat (fun F ⟨h1, h2, h3⟩ => ⟨rfl, rfl, rfl, by simp [World.putObj], fun c _ hc => ?_, F, fun c hc => ⟨.inl hc, ?_⟩, Sep.one ⟨h1, h2, ?_⟩⟩)
  · exact World.putObj_heap_other (fun e => hc (by subst e; exact h1))
  · have := (obj b o).dom F w c ⟨h1, h2, h3⟩ hc
    simpa [World.putObj] using this
  · exact World.putObj_heap_same ((obj b o).dom F w b ⟨h1, h2, h3⟩ h1)

/-- The record of a range over a function. -/
def lrec (fn : FuncId) (tmps : Array Value) (ps : Array Tmp) (assign body : Code) (D : Nat) (s : LoopState) (pe : Option Code) : Obj :=
  .loop { state := s, pending := pe, fn, tmps, params := ps, assign, body, defers := D }

def BegK (P : Program) (b : Nat) (body : Code) (R : Ending → World → Prop) (a : Act) (w : World) : Prop :=
  ∃ w₂, (Instr.beginRound b).run P w = .ok () w₂ ∧ body.wpIn (FR (some b)) 0 P (roundPost P b R) a w₂

section
variable {P : Program} {Q : Exit → Act → World → Prop} {a : Act} {w w' : World} {w0 : Bs} {n : Nat} {l l0 : List (Nat × Value)} {L L' : List HP}
  {dst : Option Nat} {R : Value → World → Prop} {ty : TypeId} {pos : String} {af : Array Edge} {g : Option (Nat × Bool)}
  {fn : FuncId} {tmps : Array Value} {ps : Array Tmp} {assign body : Code} {D b : Nat}

theorem q_begin {RE : Ending → World → Prop} (hS : St w0 L w) (hat : At (obj b (lrec fn tmps ps assign body D .ready none)) L L')
    (h : ∀ w', St w0 (obj b (lrec fn tmps ps assign body D .busy none) :: L') w' → body.wpIn (FR (some b)) 0 P (roundPost P b RE) a w') : BegK P b body RE a w :=
  ⟨_, run_beginRound (obj.block (hS.rd hat)) rfl, h _ (hS.putObj hat _)⟩

theorem q_roundN {RE : Ending → World → Prop} (hS : St w0 L w) (hat : At (obj b (lrec fn tmps ps assign body D .busy none)) L L')
    (h : ∀ w', St w0 (obj b (lrec fn tmps ps assign body D .ready none) :: L') w' → RE (.returned (.bool true)) w') : roundPost P b RE .normal a w :=
  ⟨_, _, run_endRound none (obj.block (hS.rd hat)), h _ (hS.putObj hat _)⟩

theorem beg_mono {asg : Code} {RE RE' : Ending → World → Prop} {F : Exit → Act → World → Prop} (h : asg.wpIn (FR (some b)) 0 P (Exit.then (BegK P b body RE) F) a w) (hr : ∀ e w, RE e w → RE' e w) :
    asg.wpIn (FR (some b)) 0 P (Exit.then (BegK P b body RE') F) a w := by
  refine wpIn_mono h (fun e a w h => ?_)
  cases e with
  | normal =>
    obtain ⟨w2, h2, h3⟩ := h
    refine ⟨w2, h2, wpIn_mono h3 (fun e a w h => ?_)⟩
    cases e with
    | normal => exact let ⟨u, w', h1, h2⟩ := h; ⟨u, w', h1, hr _ _ h2⟩
    | ret => exact let ⟨u, w', h1, h2⟩ := h; ⟨u, w', h1, hr _ _ h2⟩
    | exit id => exact let ⟨u, w', h1, h2⟩ := h; ⟨u, w', h1, hr _ _ h2⟩
    | goto id => exact let ⟨u, w', h1, h2⟩ := h; ⟨u, w', h1, hr _ _ h2⟩
    | panic c => exact h
    | outgrown => exact h
  | exit id => exact h
  | goto id => exact h
  | ret => exact h
  | panic c => exact h
  | outgrown => exact h

theorem fold2 {p q : Nat} {x y : Value} (hk : Kn df n a l0) (hp : Nat.blt p n = true) (hq : Nat.blt q n = true) :
    Kn [] n { tmps := ((#[p, q] : Array Tmp).zip #[x, y]).foldl (fun t (s, u) => t.setIfInBounds s u) a.tmps, defers := [] } ((q, y) :: (p, x) :: l0) := by
  have h0 : Kn [] n ({ tmps := a.tmps, defers := [] } : Act) l0 := ⟨hk.size, hk.get, rfl⟩
  have h1 := (h0.put (d := some p) hp x).put (d := some q) hq y
  have e : (#[p, q] : Array Tmp).zip #[x, y] = #[(p, x), (q, y)] := by simp
  have e2 : Array.foldl (fun t ((s, u) : Tmp × Value) => t.setIfInBounds s u) a.tmps #[(p, x), (q, y)] = (a.tmps.setIfInBounds p x).setIfInBounds q y := by simp
  rw [e, e2]
  exact h1

/-- A round, out of its body's walk: two loop variables. -/
theorem round2 {p q : Nat} {x y : Value} {RE : Ending → World → Prop} (hk : Kn df n a l0) (hp : Nat.blt p n = true := by rfl) (hq : Nat.blt q n = true := by rfl)
    (h : ∀ a', Kn [] n a' ((q, y) :: (p, x) :: l0) → assign.wpIn (FR (some b)) 0 P (Exit.then (BegK P b body RE) (fun _ _ _ => False)) a' w) :
    RoundIn Fence.wide 0 P b fn (((#[p, q] : Array Tmp).zip #[x, y]).foldl (fun t (s, u) => t.setIfInBounds s u) a.tmps) assign body w RE :=
  roundIn_of_wpIn (F := Fence.wide) (n := 0) trivial (h _ (fold2 hk hp hq))

/-- The call of yield: a round. -/
theorem g_yield {R' : Value → World → Prop} {x : Operand} {xs : List Operand} {vs : List Value} {ts : Array TypeId} {s : LoopState} {pe : Option Code} (hk : Kn df n a l) (hS : St w0 L w) (hat : At (obj b (lrec fn tmps ps assign body D s pe)) L L')
    (h : RoundIn Fence.wide 0 P b fn ((ps.zip vs.toArray).foldl (fun t (s, u) => t.setIfInBounds s u) tmps) assign body w (Ret R')) (h' : ∀ v w', R' v w' → R v w')
    (hx : ev l x = some (.func (.yield b) #[] #[]) := by rfl) (hxs : evs l xs = some vs := by rfl) (hsz : vs.toArray.size = ps.size) :
    Gives P ⟨dst, .call { callee := .value x, args := xs.toArray, argTypes := ts }, ty, pos, af, g⟩ a w R := by
  have he := evs_map hk hxs
  have e : (execOp a.eval ⟨dst, .call { callee := .value x, args := xs.toArray, argTypes := ts }, ty, pos, af, g⟩) = Instr.yield b (#[] ++ (List.toArray xs).map a.eval ++ #[]) := by
    simp [execOp, resolve, hk.eval hx, Deferred.ofValue, invoke]
  have e2 : (#[] ++ (List.toArray xs).map a.eval ++ #[] : Array Value) = vs.toArray := by simp [he]
  unfold Gives
  rw [e, e2, run_yield (obj.block (hS.rd hat)) hsz]
  exact RoundIn.mono h (fun e w hh => hh.mono h')

/-- The mark of the block for the rounds' deferred calls. -/
def mk_ (D : Nat) : List Deferred := [{ target := .collected D, args := #[] }]

theorem wp_rangeFunc {ι : Type} {gop : Operand} {gf : FuncId} {lb : List Value} (Lx : ι → List HP) (Fx : ι → Prop) (hk : Kn [] n a l0) (hS : St w0 L w)
    (hcall : ∀ (fn : FuncId) (b D : Nat) (w1 : World), St w0 (obj b (lrec fn a.tmps ps assign body D .ready none) :: obj D (.deferred (some [])) :: L) w1 →
      Calls P gf (.func (.yield b) #[] #[] :: lb).toArray w1 (Ret fun _ w' => ∃ x, St w0 (obj b (lrec fn a.tmps ps assign body D .ready none) :: obj D (.deferred (some [])) :: Lx x) w' ∧ Fx x))
    (h : ∀ x D w', Fx x → St w0 (obj D (.deferred (some [])) :: Lx x) w' → ∀ a', Kn (mk_ D) n a' l0 → Q .normal a' w')
    (hg : ev l0 gop = some (.func (.func gf) #[] lb.toArray) := by rfl) (hf : callable P gf = true := by kernel_rfl) :
    (Code.rangeFunc gop ps assign body).wpIn (FR none) 0 P Q a w := by
  refine wpIn_rangeFunc ?_
  intro fn _
  have h1 := (hS.newObj (.deferred (some []))).newObj (lrec fn a.tmps ps assign body w.heap.size .ready none)
  rw [World.size_alloc] at h1
  have hc := (hcall fn (w.heap.size + 1) w.heap.size _ h1)
  obtain ⟨W1, hW1⟩ : ∃ W1, (w.alloc (.deferred (some []))).alloc (lrec fn a.tmps ps assign body w.heap.size .ready none) = W1 := ⟨_, rfl⟩
  rw [hW1] at hc
  refine ⟨w.heap.size + 1, mk_ w.heap.size, W1, { target := .fn (.func gf) lb.toArray, args := #[.func (.yield (w.heap.size + 1)) #[] #[]] }, W1, gf,
    (.func (.yield (w.heap.size + 1)) #[] #[] :: lb).toArray, W1, (by rw [← hW1]; exact run_enterLoop_outer _ _ _ _ _), ?_, fun _ _ => trivial, ?_, fun e => (by cases e), CallsIn.fr (Calls.mono hc ?_)⟩
  · simp only [resolve, hk.eval hg]
    simp [go_sem]
  · have e : (.func (.yield (w.heap.size + 1)) #[] #[] :: lb).toArray = #[.func (.yield (w.heap.size + 1)) #[] #[]] ++ lb.toArray := by simp
    rw [e]
    simp [invoke, go_sem, callFunc_run hf]
  · rintro e w2 ⟨v, rfl, x, hS2, hF⟩
    refine ⟨none, _, run_endLoop (obj.block (hS2.rd At.here)) (by simp), ?_⟩
    refine h x _ _ hF ((hS2.putObj At.here _).sub (.cons (At.there At.here) .cons_drop)) _ ⟨hk.size, hk.get, ?_⟩
    simp [mk_, hk.defers]

/-- What stands at the end of a body that has gone through a range over a function. -/
def DoneM (P : Program) (fn : Func) (R : Value → World → Prop) : Exit → Act → World → Prop := bodyPostM Fence.wide 0 P fn (Ret R)

theorem enterM {f : FuncId} {fn : Func} {c : Code} {args : List Value}
    (hf : P.funcs[f]? = some fn) (hb : fn.body = some c) (hnt : fn.ntmps = n) (hn : Nat.ble args.length n = true)
    (h : ∀ a, Kn [] n a (initK 0 args) → c.wpIn (FR none) 0 P (DoneM P fn R) a w) : Calls P f args.toArray w (Ret R) := by
  subst hnt
  exact callsIn_wide.1 (callsIn_of_wp_marks (F := Fence.wide) (n := 0) hf hb trivial (h _ (Kn.init (Nat.le_of_ble_eq_true hn))) rfl)

theorem done1M {fn : Func} {t : Nat} {v : Value} (hk : Kn (mk_ D) n a l) (hS : St w0 L w) (hat : At (obj D (.deferred (some []))) L L') (h : ∀ w', St w0 L' w' → R v w')
    (hr : fn.results = #[.tmp t] := by rfl) (hv : lk l t = some v := by rfl) : DoneM P fn R .ret a w := by
  have h1 := hS.putObj hat (.deferred none)
  show LeavesInM _ _ _ _ _ _ a.defers .returning w
  rw [hk.defers]
  exact ⟨by simp, .inl ⟨_, _, rfl, run_takeDeferred (obj.block (hS.rd hat)), _, results_tmp hr _ _ _, _, by rw [hk.get t v hv], h _ (h1.sub .cons_drop)⟩⟩

theorem done0 {fn : Func} (hk : Kn [] n a l) (hr : fn.results = #[] := by rfl) (h : R (.tuple #[]) w) : Done P fn R .ret a w :=
  bodyPost_ret (results_none hr _ _ _) hk.defers ⟨_, rfl, h⟩
theorem done0n {fn : Func} (hk : Kn [] n a l) (hr : fn.results = #[] := by rfl) (h : R (.tuple #[]) w) : Done P fn R .normal a w :=
  bodyPost_end (results_none hr _ _ _) hk.defers ⟨_, rfl, h⟩
/-! ## A slice and nil -/
theorem g_eqN {x : Operand} {t t' E m c n' c' : Nat} {ao : Option Addr} (hk : Kn df n a l) (h : R (.bool ao.isNone) w) (hx : ev l x = some (.slice ao m c) := by rfl) (hT : elOf P t = some E) :
    Gives P ⟨dst, .binOp .eql t x (.const (.slice none n' c')) t', ty, pos, af, g⟩ a w R :=
  givesv (v := .bool ao.isNone) (by
    have h1 := Lib.run_eql_slice_nil (P := P) w t E ao m c n' c' (elOf_und hT)
    have h2 : a.eval (.const (.slice none n' c')) = .slice none n' c' := rfl
    simp [execOp, hk.eval hx, h2, eqGuard, Sem.run_bind, h1]) h
theorem g_neN {x : Operand} {t t' E m c n' c' : Nat} {ao : Option Addr} (hk : Kn df n a l) (h : R (.bool (!ao.isNone)) w) (hx : ev l x = some (.slice ao m c) := by rfl) (hT : elOf P t = some E) :
    Gives P ⟨dst, .binOp .neq t x (.const (.slice none n' c')) t', ty, pos, af, g⟩ a w R :=
  givesv (v := .bool (!ao.isNone)) (by
    have h1 := run_neq_slice_nil_any (P := P) w t E ao m c n' c' (elOf_und hT)
    have h2 : a.eval (.const (.slice none n' c')) = .slice none n' c' := rfl
    simp [execOp, hk.eval hx, h2, eqGuard, Sem.run_bind, h1]) h
end
end Go.Proofs.Ytakejjfmbgbedaa
