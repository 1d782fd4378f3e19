/- From the form's reading of the arguments to what a walk asks; and from a law's walk to the row's contract. Slices: those that are read, and those that the call owns. Loops that count. Maps that the call makes: as lists of keys and values. Slices by their elements: each kind of element has its cells. -/
import Derived.Test.YtcahaaapmaahnaaE03
import Derived.ProofKit
import Derived.Deep.AppendSrc
import Derived.Laws.MakeOwn
set_option linter.all false
namespace Go.Proofs.Ytcahaaapmaahnaa
open Go.ChangeShapes Go.WideShapes Go.ChangeAt Go.RowKit

def Rdg (P : Program) (W : World) : Nat → TypeId → List Value → Prop
  | 0, _, _ => True
  | D + 1, T, cs => match P.underlying T with
    | some .bool => ∃ b, cs = [.bool b]
    | some (.int k) => ∃ n, cs = [.int k n] ∧ k.min ≤ n ∧ n ≤ k.max
    | some .string => ∃ s : ByteArray, cs = [.string s] ∧ s.size ≤ maxLen
    | some (.slice e) => ∃ v, cs = [v] ∧ (v = .slice none 0 0 ∨ ∃ a len cap, v = .slice (some a) len cap ∧ len ≤ cap ∧ cap ≤ maxLen ∧
        ∀ i, i < len → ∃ us : List Value, us.length = P.cellsOf e ∧ (∀ j u, us[j]? = some u → W.cell? ((a.add (i * P.cellsOf e)).add j) = some u) ∧ Rdg P W D e us)
    | some (.struct fs) => cs.length = P.cellsOf T ∧ ∀ f ∈ fs.toList, Rdg P W D f.type ((cs.drop f.offset).take (P.cellsOf f.type))
    | _ => True

theorem cells?_get {w : World} {base : Nat} {a : Addr} {n : Nat} {us : List Value} (h : w.cells? base a n = some us) : us.length = n ∧ ∀ j u, us[j]? = some u → w.cell? (a.add j) = some u := by
  unfold World.cells? at h
  split at h
  · have h1 : us.length = n := by simpa using mapM_some_length h
    refine ⟨h1, fun j u hj => ?_⟩
    have hjn : j < n := by
      rcases Nat.lt_or_ge j us.length with h' | h'
      · omega
      · rw [List.getElem?_eq_none h'] at hj; cases hj
    have := mapM_some_get h j j (by simp [hjn])
    rw [this, hj]
  · cases h

theorem rdg_of_trod {H : Type} {enc : TypeId × Value → H} {P : Program} {W : World} {base : Nat} {spare : Nat → Bool} {held : Bool} : ∀ (fuel D : Nat) (T : TypeId) (cs : List Value) (d : DataW H) (ps : List MemPlace),
    DataW.trod enc P W base spare held fuel T cs = some (d, ps) → Rdg P W D T cs
  | 0, _, _, _, _, _, h => by simp [DataW.trod] at h
  | fuel + 1, 0, _, _, _, _, _ => trivial
  | fuel + 1, D + 1, T, cs, d, ps, h => by
    unfold Rdg
    cases hu : P.underlying T with
    | none => trivial
    | some dsc =>
      cases dsc <;> first | trivial | skip
      case bool =>
        obtain ⟨b, hb, _⟩ := DataW.trod_bool hu h
        exact ⟨b, hb⟩
      case int k =>
        obtain ⟨n, hn, _, hw⟩ := DataW.trod_int hu h
        simp only [Lit.wf, Bool.and_eq_true, decide_eq_true_eq] at hw
        exact ⟨n, hn, hw⟩
      case string =>
        obtain ⟨s, hs, _, hl⟩ := DataW.trod_string hu h
        exact ⟨s, hs, hl⟩
      case slice e =>
        rcases DataW.trod_slice hu h with ⟨hc, _⟩ | ⟨a, len, cap, elems, rest, n, hfu, hc, _, _, hl, hm, hel, hget, _⟩
        · exact ⟨_, hc, .inl rfl⟩
        · refine ⟨_, hc, .inr ⟨a, len, cap, rfl, hl, hm, fun i hi => ?_⟩⟩
          have h1 := hget i hi
          have hx : elems[i]? = some (elems[i]'(by omega)) := List.getElem?_eq_getElem (by omega)
          rw [hx, Option.bind_eq_some_iff] at h1
          obtain ⟨us, hus, htr⟩ := h1
          obtain ⟨hlen, hcell⟩ := cells?_get hus
          have hfn : fuel = n := by omega
          subst hfn
          exact ⟨us, hlen, hcell, rdg_of_trod fuel D e us _ _ htr⟩
      case struct fs =>
        obtain ⟨xs, n, hfu, _, hl, hlen, hget⟩ := DataW.trod_struct hu h
        refine ⟨hl, fun f hf => ?_⟩
        obtain ⟨i, hi⟩ := List.getElem?_of_mem hf
        have hi' : fs[i]? = some f := by simpa using hi
        have hlt : i < fs.size := by
          rcases Nat.lt_or_ge i fs.size with h' | h'
          · exact h'
          · rw [Array.getElem?_eq_none h'] at hi'; cases hi'
        have h1 := hget i f hi'
        have hx : xs[i]? = some (xs[i]'(by omega)) := List.getElem?_eq_getElem (by omega)
        rw [hx] at h1
        have hfn : fuel = n := by omega
        subst hfn
        exact rdg_of_trod fuel D f.type _ _ _ h1

def Arg (P : Program) (W : World) (T : TypeId) (v : Value) : Prop := Rdg P W 8 T v.cells.toList ∧ (aggOf P T = some true → ∃ cs : List Value, v = .agg cs.toArray) ∧ (aggOf P T = some false → v.cells = #[v])

theorem arg_of {H : Type} {enc : TypeId × Value → H} {P : Program} {W : World} {base : Nat} {T : TypeId} {v : Value} {d : DataW H} {ps : List MemPlace} (hv : Value.okWide P W .any base T v) (h : DataW.Trod enc P W 0 (fun _ => true) true T v d ps) : Arg P W T v := by
  obtain ⟨fuel, hf⟩ := h
  refine ⟨rdg_of_trod fuel 8 T _ _ _ hf, fun ha => ?_, fun ha => ?_⟩
  rotate_left
  · unfold aggOf at ha
    unfold Value.okWide at hv
    cases hu : P.underlying T with
    | none => rw [hu] at ha; cases ha
    | some dsc =>
      rw [hu] at ha hv
      cases v <;> first
        | rfl
        | (cases dsc <;> first | (simp at ha; done) | (simp [Cell.okWide, Cell.ok, hu] at hv; done))
  unfold aggOf at ha
  unfold Value.okWide at hv
  cases hu : P.underlying T with
  | none => rw [hu] at ha; cases ha
  | some dsc =>
    rw [hu] at ha hv
    cases dsc <;> first
      | (simp at ha; done)
      | (obtain ⟨cs, h1, _⟩ := hv; exact ⟨cs.toList, by simpa using h1⟩)

def Args (P : Program) (W : World) : List TypeId → List Value → Prop
  | [], [] => True
  | t :: ts, v :: vs => Arg P W t v ∧ Args P W ts vs
  | _, _ => False

theorem args_of {H : Type} {enc : TypeId × Value → H} {P : Program} {W : World} {base : Nat} : ∀ {ts : List TypeId} {vs : List Value} {ds : List (DataW H)} {ps : List MemPlace},
    (∀ (j : Nat) t v, ts[j]? = some t → vs[j]? = some v → Value.okWide P W .any base t v) → DataW.TrodAll enc P W 0 (fun _ => true) true ts vs ds ps → Args P W ts vs
  | [], [], _, _, _, _ => trivial
  | t :: ts, v :: vs, d :: ds, ps, hok, ⟨p, q, h1, h2, _⟩ => ⟨arg_of (hok 0 t v rfl rfl) h1, args_of (fun j t' v' ht hv => hok (j + 1) t' v' (by simpa using ht) (by simpa using hv)) h2⟩
  | [], _ :: _, _, _, _, h => h.elim
  | _ :: _, [], _, _, _, h => h.elim
  | _ :: _, _ :: _, [], _, _, h => h.elim

theorem args_cons {P : Program} {W : World} {t : TypeId} {ts : List TypeId} {vs : List Value} (h : Args P W (t :: ts) vs) : ∃ v vs', vs = v :: vs' ∧ Arg P W t v ∧ Args P W ts vs' := by
  cases vs with
  | nil => exact h.elim
  | cons v vs => exact ⟨v, vs, rfl, h.1, h.2⟩
theorem args_nil {P : Program} {W : World} {vs : List Value} (h : Args P W [] vs) : vs = [] := by
  cases vs with
  | nil => rfl
  | cons v vs => exact h.elim
theorem args1 {P : Program} {W : World} {t : TypeId} {vs : List Value} (h : Args P W [t] vs) : ∃ a, vs = [a] ∧ Arg P W t a := by
  obtain ⟨a, r, rfl, ha, h⟩ := args_cons h
  rw [args_nil h]; exact ⟨a, rfl, ha⟩
theorem trodAll_stays {H : Type} {enc : TypeId × Value → H} {P : Program} (hl : laidOutB P = true) {W W' : World} (hb : Below W.heap.size W W') : ∀ {ts : List TypeId} {vs : List Value} {ds : List (DataW H)} {ps : List MemPlace},
    (ts.all fun t => P.readableRec t && Nat.blt t P.types.size) = true → (∀ x ∈ ps, x.block < W.heap.size) → DataW.TrodAll enc P W 0 (fun _ => true) true ts vs ds ps → DataW.TrodAll enc P W' 0 (fun b => decide (b < W.heap.size)) true ts vs ds ps
  | [], [], [], _, _, _, h => h
  | t :: ts, v :: vs, d :: ds, ps, hr, hlt, ⟨p, q, h1, h2, h3⟩ => by
    simp only [List.all_cons, Bool.and_eq_true] at hr
    subst h3
    have ht : t < P.types.size := by
      have : t + 1 ≤ P.types.size := by simpa [Nat.blt, Nat.ble_eq] using hr.1.2
      exact this
    exact ⟨p, q, Below.trod hl hr.1.1 ht h1 hb (fun x hx => hlt x (by simp [hx])), trodAll_stays hl hb hr.2 (fun x hx => hlt x (by simp [hx])) h2, rfl⟩
  | [], _ :: _, _, _, _, _, h => h.elim
  | [], [], _ :: _, _, _, _, h => h.elim
  | _ :: _, [], _, _, _, _, h => h.elim
  | _ :: _, _ :: _, [], _, _, _, h => h.elim

theorem law_contractX (X : World → Prop) {H : Type} {enc : TypeId × Value → H} {P : Program} {f : FuncId} {fn : Func} {s : ChangeSpec} {tb : TypeId} (hl : laidOutB P = true) (hr : (fn.params.toList.all fun t => P.readableRec t && Nat.blt t P.types.size) = true)
    (hb : fn.resultTypes = #[tb]) (hbool : P.underlying tb = some .bool) (hvars : s.vars = [])
    (hspec : ∀ ds : List (DataW H), ds.length = fn.params.size → s.fn H (ds ++ []) = { results := [.lit (.bool true)], args := ds, vars := [] })
    (walk : ∀ (W : World) (vs : List Value), X W → Args P W fn.params.toList vs → Calls P f vs.toArray W (Ret fun v w => v = .bool true ∧ St W [] w))
    (W : World) (hX : X W) (base : Nat) (args : Array Value) (ds gs : List (DataW H)) (before : List MemPlace)
    (hok : ∀ (j : Nat) t v, fn.params[j]? = some t → args[j]? = some v → Value.okWide P W .any base t v)
    (hW : DataW.Whole enc P fn.params.toList s.vars false W args.toList ds gs before) :
    Calls P f args W fun e W' => ∃ v, e = .returned v ∧ s.post enc P fn false true false false W args v W' := by
  have hlt := hW.lt
  have hW' := hW
  obtain ⟨p, q, hA, hV, hpq, _, _⟩ := hW
  have hgs : gs = [] ∧ q = [] := by
    rw [hvars] at hV
    cases gs with
    | nil => exact ⟨rfl, hV⟩
    | cons g gs => exact hV.elim
  obtain ⟨rfl, rfl⟩ := hgs
  have hlen : ds.length = fn.params.size := by
    have : ∀ {ts : List TypeId} {vs : List Value} {ds : List (DataW H)} {ps : List MemPlace}, DataW.TrodAll enc P W 0 (fun _ => true) true ts vs ds ps → ds.length = ts.length := by
      intro ts
      induction ts with
      | nil => intro vs ds ps h; cases vs <;> cases ds <;> first | rfl | exact h.elim
      | cons t ts ih =>
        intro vs ds ps h
        cases vs with
        | nil => exact h.elim
        | cons v vs =>
          cases ds with
          | nil => exact h.elim
          | cons d ds => obtain ⟨_, _, _, h2, _⟩ := h; simp [ih h2]
    simpa using this hA
  have hargs := args_of (fun j t v ht hv => hok j t v (by simpa using ht) (by simpa using hv)) hA
  have hc := walk W args.toList hX hargs
  simp only [Array.toArray_toList] at hc
  refine hc.mono fun e W' ⟨v, he, hv, hS⟩ => ⟨v, he, ?_⟩
  subst hv
  have hsp := hspec ds hlen
  refine ⟨ds, [], before, [], p, [], hW', ?_, ?_, ?_, hS.below.frame _, fun h => by cases h⟩
  · rw [hsp, hb]
    exact trodAll_mk1 (shut_bool hbool true)
  · rw [hsp]
    have : before = p := by simpa using hpq
    subst this
    exact trodAll_stays hl hS.below hr (fun x hx => hlt x hx) hA
  · rw [hsp, hvars]
    exact rfl

theorem law_contract {H : Type} {enc : TypeId × Value → H} {P : Program} {f : FuncId} {fn : Func} {s : ChangeSpec} {tb : TypeId} (hl : laidOutB P = true) (hr : (fn.params.toList.all fun t => P.readableRec t && Nat.blt t P.types.size) = true)
    (hb : fn.resultTypes = #[tb]) (hbool : P.underlying tb = some .bool) (hvars : s.vars = [])
    (hspec : ∀ ds : List (DataW H), ds.length = fn.params.size → s.fn H (ds ++ []) = { results := [.lit (.bool true)], args := ds, vars := [] })
    (walk : ∀ (W : World) (vs : List Value), Args P W fn.params.toList vs → Calls P f vs.toArray W (Ret fun v w => v = .bool true ∧ St W [] w))
    (W : World) (base : Nat) (args : Array Value) (ds gs : List (DataW H)) (before : List MemPlace)
    (hok : ∀ (j : Nat) t v, fn.params[j]? = some t → args[j]? = some v → Value.okWide P W .any base t v)
    (hW : DataW.Whole enc P fn.params.toList s.vars false W args.toList ds gs before) :
    Calls P f args W fun e W' => ∃ v, e = .returned v ∧ s.post enc P fn false true false false W args v W' :=
  law_contractX (fun _ => True) hl hr hb hbool hvars hspec (fun W vs _ h => walk W vs h) W trivial base args ds gs before hok hW

theorem cellsOf_sz {P : Program} {T k : Nat} (h : szOf P T = some k) : P.cellsOf T = k := by
  unfold szOf at h
  unfold Program.cellsOf
  rw [h]; rfl

end Go.Proofs.Ytcahaaapmaahnaa
namespace Go.Proofs.Ytcahaaapmaahnaa
variable {df : List Deferred}
open Go.RowKit

def blk : Value → Nat
  | .slice (some a) _ _ => a.block
  | _ => 0
def offs : Value → Nat
  | .slice (some a) _ _ => a.off
  | _ => 0

def Slr (k n : Nat) (v : Value) (cs : List Value) (w : World) : Prop :=
  cs.length = n * k ∧ n ≤ maxLen ∧ ((v = .slice none 0 0 ∧ n = 0) ∨ ∃ a cap, v = .slice (some a) n cap ∧ n ≤ cap ∧ cap ≤ maxLen ∧ ∀ j u, cs[j]? = some u → a.spot = none ∧ w.cell? ⟨a.block, a.off + j, none⟩ = some u)

theorem Slr.frz {k n : Nat} {v : Value} {cs : List Value} {w w' : World} (h : Slr k n v cs w) (hb : Frz w w') : Slr k n v cs w' := by
  obtain ⟨h1, h2, h3⟩ := h
  refine ⟨h1, h2, ?_⟩
  rcases h3 with h3 | ⟨a, cap, hv, hc, hm, hcell⟩
  · exact .inl h3
  · refine .inr ⟨a, cap, hv, hc, hm, fun j u hj => ?_⟩
    obtain ⟨hs, hcl⟩ := hcell j u hj
    exact ⟨hs, Frz.cell hb hcl⟩

theorem St.slr {w0 : Bs} {w : World} {L : List HP} (hS : St w0 L w) {k n : Nat} {v : Value} {cs : List Value} (h : Slr k n v cs w0.g) : Slr k n v cs w := h.frz hS.frz

theorem Slr.cells {k n : Nat} {v : Value} {cs : List Value} {w : World} (h : Slr k n v cs w) {i : Nat} : Cells (blk v) (offs v + i * k) ((cs.drop (i * k)).take k) w := by
  obtain ⟨h1, h2, h3⟩ := h
  intro j u hj
  rw [List.getElem?_take] at hj
  split at hj
  · rw [List.getElem?_drop] at hj
    rcases h3 with ⟨rfl, rfl⟩ | ⟨a, cap, rfl, _, _, hcell⟩
    · have : cs = [] := List.eq_nil_of_length_eq_zero (by simpa using h1)
      subst this; simp at hj
    · have := (hcell _ u hj).2
      simp only [blk, offs]
      rw [show a.off + i * k + j = a.off + (i * k + j) by omega]
      exact this
  · cases hj

def ints (xs : List Int) : List Value := xs.map (Value.int .i64)
def slo (E : TypeId) (k n : Nat) (v : Value) (cs : List Value) : HP where
  holds F w := cs.length = n * k ∧ n ≤ maxLen ∧ ((v = .slice none 0 0 ∧ n = 0) ∨
    ∃ b off cap cur, v = .slice (some ⟨b, off, none⟩) n cap ∧ F b ∧ (∀ c, F c → c = b) ∧ w.heap[b]? = some (.cells cur E (0, 0)) ∧ n ≤ cap ∧ cap ≤ maxLen ∧ off + cap * k ≤ cur.size ∧ ∀ j u, cs[j]? = some u → cur[off + j]? = some u) ∧
    (∀ c, F c → c < w.heap.size)
  stable := fun F w w' ⟨h1, h2, h3, h4⟩ h => ⟨h1, h2, by
    rcases h3 with h3 | ⟨b, off, cap, cur, hv, hF, hF', hb, hn, hc, hs, hcell⟩
    · exact .inl h3
    · exact .inr ⟨b, off, cap, cur, hv, hF, hF', by rw [h b hF]; exact hb, hn, hc, hs, hcell⟩, fun c hc => by
      have := h c hc
      have hlt := h4 c hc
      rcases Nat.lt_or_ge c w'.heap.size with h' | h'
      · exact h'
      · rw [Array.getElem?_eq_none h', Array.getElem?_eq_getElem hlt] at this; cases this⟩
  dom := fun F w c ⟨_, _, _, h4⟩ hc => h4 c hc

theorem slo.slr {E k n : Nat} {v : Value} {cs : List Value} {w : World} (h : (slo E k n v cs).rd w) : Slr k n v cs w := by
  obtain ⟨F, h1, h2, h3, _⟩ := h
  refine ⟨h1, h2, ?_⟩
  rcases h3 with h3 | ⟨b, off, cap, cur, hv, hF, hF', hb, hn, hc, hs, hcell⟩
  · exact .inl h3
  · refine .inr ⟨_, cap, hv, hn, hc, fun j u hj => ⟨rfl, ?_⟩⟩
    rw [cell_of_row w b (off + j) _ E _ hb]
    exact hcell j u hj

theorem slo_nil (E k : Nat) (w : World) : (slo E k 0 (.slice none 0 0) []).holds (fun _ => False) w := ⟨by simp, by simp [maxLen], .inl ⟨rfl, rfl⟩, fun _ h => h.elim⟩

theorem St.conv {w0 : Bs} {w : World} {L L' : List HP} {A : HP} {As : List HP} (h : St w0 L w) (hat : At A L L') (hc : ∀ F, A.holds F w → ∃ G : Nat → Prop, (∀ b, G b → F b) ∧ Sep As G w) : St w0 (As ++ L') w :=
  h.change hat (fun F hF => by
    obtain ⟨G, hG, hs⟩ := hc F hF
    exact ⟨rfl, rfl, rfl, Nat.le_refl _, fun _ _ _ => rfl, G, fun b hb => ⟨.inl (hG b hb), A.dom F w b hF (hG b hb)⟩, hs⟩)

theorem St.ownNil {w0 : Bs} {w : World} {L : List HP} (h : St w0 L w) (E k : Nat) : St w0 (slo E k 0 (.slice none 0 0) [] :: L) w :=
  h.call ⟨Below.refl _ _, Frz.refl _, fun _ => False, fun _ h => h.elim, Sep.one (slo_nil E k w)⟩

theorem St.ptsOwn {w0 : Bs} {w : World} {L L' : List HP} {E k n b : Nat} {us : List Value} (h : St w0 L w) (hat : At (pts b us E) L L') (hl : us.length = n * k) (hn : n ≤ maxLen) : St w0 (slo E k n (.slice (some ⟨b, 0, none⟩) n n) us :: L') w :=
  h.conv (As := [_]) hat (fun F hF => ⟨F, fun _ h => h, Sep.one ⟨hl, hn, .inr ⟨b, 0, n, us.toArray, rfl, hF.1, hF.2.1, hF.2.2, Nat.le_refl _, hn, by simp [hl], fun j u hj => by simpa using hj⟩, fun c hc => (pts b us E).dom F w c hF hc⟩⟩)

theorem St.ownPts {w0 : Bs} {w : World} {L L' : List HP} {E k n b off cap : Nat} {cs : List Value} (h : St w0 L w) (hat : At (slo E k n (.slice (some ⟨b, off, none⟩) n cap) cs) L L') :
    ∃ vs : List Value, St w0 (pts b vs E :: L') w ∧ off + cap * k ≤ vs.length ∧ n ≤ cap ∧ cap ≤ maxLen ∧ cs.length = n * k ∧ ∀ j u, cs[j]? = some u → vs[off + j]? = some u := by
  obtain ⟨F0, h1, h2, h3, h4⟩ := h.rd hat
  rcases h3 with ⟨hv, _⟩ | ⟨b', off', cap', cur, hv, hF, hF', hb, hn, hc, hs, hcell⟩
  · cases hv
  · simp only [Value.slice.injEq, Option.some.injEq, Addr.mk.injEq] at hv
    obtain ⟨⟨e1, e2, _⟩, _, e3⟩ := hv
    subst e1; subst e2; subst e3
    refine ⟨cur.toList, ?_, by simpa using hs, hn, hc, h1, fun j u hj => by simpa using hcell j u hj⟩
    refine h.conv (As := [_]) hat (fun F hF2 => ⟨F, fun _ h => h, Sep.one ?_⟩)
    obtain ⟨_, _, g3, _⟩ := hF2
    rcases g3 with ⟨hv, _⟩ | ⟨b', off', cap', cur', hv, gF, gF', gb, _⟩
    · cases hv
    · simp only [Value.slice.injEq, Option.some.injEq, Addr.mk.injEq] at hv
      obtain ⟨⟨e1, _, _⟩, _, _⟩ := hv
      subst e1
      exact ⟨gF, gF', by simpa using hb⟩

theorem splice_len : ∀ (us : List Value) (o : Nat) (vs : List Value), (splice vs o us).length = vs.length
  | [], _, _ => rfl
  | u :: us, o, vs => by simp [splice, splice_len us]

theorem splice_get : ∀ (us : List Value) (o : Nat) (vs : List Value) (j : Nat), o + us.length ≤ vs.length → (splice vs o us)[j]? = if o ≤ j ∧ j < o + us.length then us[j - o]? else vs[j]?
  | [], o, vs, j, _ => by
    have : ¬ (o ≤ j ∧ j < o + 0) := by omega
    simp only [splice, List.length_nil]
    rw [if_neg this]
  | u :: us, o, vs, j, h => by
    simp only [splice]
    rw [splice_get us (o + 1) (vs.set o u) j (by simp at h ⊢; omega)]
    simp only [List.length_cons] at h ⊢
    by_cases h1 : o + 1 ≤ j ∧ j < o + 1 + us.length
    · rw [if_pos h1, if_pos (by omega)]
      rw [show j - o = (j - (o + 1)) + 1 by omega]
      simp
    · rw [if_neg h1]
      by_cases h2 : j = o
      · subst h2
        rw [if_pos (by omega)]
        simp [show j < vs.length by omega]
      · rw [if_neg (by omega), List.getElem?_set_ne (by omega)]

theorem byOf_info {P : Program} {E k : Nat} {z : Value} (hs : szOf P E = some k) (hz : zeroOf P E = some z) : ∃ i, P.info? E = some i ∧ i.size = k ∧ i.zero = some z := by
  unfold szOf at hs
  unfold zeroOf at hz
  cases hi : P.info? E with
  | none => rw [hi] at hs; simp at hs
  | some i => rw [hi] at hs hz; simp at hs hz; exact ⟨i, rfl, hs, hz⟩

section
variable {P : Program} {a : Act} {w w' : World} {w0 : Bs} {n : Nat} {l : List (Nat × Value)} {L L' : List HP}
  {dst : Option Nat} {R : Value → World → Prop} {ty : TypeId} {pos : String} {af : Array Edge} {g : Option (Nat × Bool)}

theorem g_lenSl {x : Operand} {t : TypeId} {k m : Nat} {v : Value} {cs : List Value} (hk : Kn df n a l) (hs : Slr k m v cs w) (h : R (.int .i64 m) w) {E : Nat} (ht : elOf P t = some E)
    (hx : ev l x = some v := by rfl) : Gives P ⟨dst, .call { callee := .builtin .len, args := #[x], argTypes := #[t] }, ty, pos, af, g⟩ a w R := by
  have hv : ∃ ao c, v = .slice ao m c := by
    rcases hs.2.2 with ⟨rfl, rfl⟩ | ⟨a, c, rfl, _⟩
    · exact ⟨_, _, rfl⟩
    · exact ⟨_, _, rfl⟩
  obtain ⟨ao, c, rfl⟩ := hv
  refine givesv (v := .int .i64 m) ?_ h
  simp [execOp, resolve, invoke, builtin, hk.eval hx, Builtin.len_, run_underlying (elOf_und ht), goInt]

theorem g_index {x y : Operand} {t : TypeId} {k m i : Nat} {v : Value} {cs : List Value} {E : Nat} {kk : IntKind} (hk : Kn df n a l) (hs : Slr (k + 1) m v cs w) (hi : i < m) (h : R (.pointer (some ⟨blk v, offs v + i * (k + 1), none⟩)) w)
    (ht : elOf P t = some E) (hE : szOf P E = some (k + 1)) (hx : ev l x = some v := by rfl) (hy : ev l y = some (.int kk (i : Int)) := by rfl) :
    Gives P ⟨dst, .indexAddr t x y, ty, pos, af, g⟩ a w R := by
  rcases hs.2.2 with ⟨rfl, rfl⟩ | ⟨ad, c, rfl, _, _, hcell⟩
  · omega
  · have hlt : i * (k + 1) < cs.length := by
      rw [hs.1]
      exact Nat.mul_lt_mul_of_pos_right hi (by omega)
    obtain ⟨hsp, _⟩ := hcell (i * (k + 1)) _ (List.getElem?_eq_getElem hlt)
    obtain ⟨b, o, sp⟩ := ad
    simp only at hsp
    subst hsp
    refine givesv (v := .pointer (some ⟨b, o + i * (k + 1), none⟩)) ?_ h
    have hi0 : (0 : Int) ≤ (i : Int) ∧ (i : Int) < (m : Int) := ⟨by omega, by omega⟩
    simp [execOp, hk.eval hx, hk.eval hy, Instr.indexAt, run_underlying (elOf_und ht), asIntOf, hi, szOf_run hE, addr_add]

def zerosL (z : Value) (m k : Nat) : List Value := (List.range (m * k)).map (fun i => z.cells[i % z.cells.size]!)

theorem g_buildSlice {T E k m : Nat} {parts : List (Nat × Operand)} {vals : List (Nat × Value)} {z : Value} {us : List Value} (hk : Kn df n a l) (hS : St w0 L w)
    (h : ∀ w' v, St w0 (slo E (k + 1) (m + 1) v us :: L) w' → R v w')
    (hT : elOf P T = some E) (hE : szOf P E = some (k + 1)) (hz : zeroOf P E = some z)
    (hp : evP l parts = some vals := by rfl) (hb : bldP (fun i => some (i * (k + 1), k + 1)) (zerosL z (m + 1) (k + 1)) vals = some us := by rfl) (hl : us.length = (m + 1) * (k + 1) := by rfl) (hm : Nat.ble ((m + 1) * (k + 1)) 16777216 = true := by rfl) :
    Gives P ⟨dst, .buildSlice T (m + 1) parts.toArray, ty, pos, af, g⟩ a w R := by
  have hm' := Nat.le_of_ble_eq_true hm
  have hle : m + 1 ≤ maxLen := by
    have : m + 1 ≤ (m + 1) * (k + 1) := Nat.le_mul_of_pos_right _ (by omega)
    simp only [maxLen]; omega
  refine givesv (v := .slice (some ⟨w.heap.size, 0, none⟩) (m + 1) (m + 1)) (w' := w.alloc (.cells us.toArray E)) ?_ (h _ _ ((hS.alloc us E).ptsOwn At.here hl hle))
  have he := evP_map hk hp
  have h3 := fill_bldP (fun i => some (i * (k + 1), k + 1)) vals ((Array.range ((m + 1) * (k + 1))).map (fun i => z.cells[i % z.cells.size]!)) us (by simpa [zerosL] using hb)
  have hne : ¬ (m + 1) * (k + 1) = 0 := by have := Nat.mul_pos (show 0 < m + 1 by omega) (show 0 < k + 1 by omega); omega
  simp only [execOp, Instr.buildSlice, Sem.run_bind, run_underlying (elOf_und hT), Result.andThen_ok, szOf_run hE, List.map_toArray, he]
  have hng : ¬ (2 ^ 24 < (m + 1) * (k + 1)) := by omega
  simp [hng, hne, zeroOf_run hz, h3, newRow]

theorem g_append {x y : Operand} {t tx : TypeId} {E k m q : Nat} {v y0 z : Value} {cs news : List Value} (hk : Kn df n a l) (hS : St w0 L w) (hsrc : Src P (k + 1) tx y0 q news w)
    (h : ∀ w' v', St w0 (slo E (k + 1) (m + q) v' (cs ++ news) :: L') w' → R v' w')
    (hT : elOf P t = some E) (hE : szOf P E = some (k + 1)) (hz : zeroOf P E = some z) (hzs : z.cells.size = k + 1) (h63 : m + q ≤ maxLen) {by_ : Nat} (hby : ((P.info? E).map (·.bytes)).getD 0 = by_) (hbytes : (m + q) * by_ ≤ 140737488355328)
    (hx : ev l x = some v := by rfl) (hy : ev l y = some y0 := by rfl)
    (hat : At (slo E (k + 1) m v cs) L L' := by (repeat (first | exact At.here | apply At.there))) :
    Gives P ⟨dst, .call { callee := .builtin .append, args := #[x, y], argTypes := #[t, tx] }, ty, pos, af, g⟩ a w R := by
  obtain ⟨i, hi, his, hiz⟩ := byOf_info hE hz
  have hib : i.bytes = by_ := by rw [hi] at hby; exact hby
  obtain ⟨F0, h1, h2, h3, h4⟩ := hS.rd hat
  have run : ∀ {v' : Value} {w' : World}, (Builtin.append_ #[t, tx] ty #[v, y0]).run P w = .ok v' w' → R v' w' → Gives P ⟨dst, .call { callee := .builtin .append, args := #[x, y], argTypes := #[t, tx] }, ty, pos, af, g⟩ a w R := by
    intro v' w' hr hR
    refine givesv (v := v') ?_ hR
    simp [execOp, resolve, invoke, builtin, hk.eval hx, hk.eval hy, hr]
  -- a new row
  have fresh : ∀ (base : Option Addr) (cap : Nat), v = .slice base m cap → cap < m + q → (Builtin.firstCells i.size m (.slice base m cap)).run P w.drew = .ok cs.toArray w.drew → Gives P ⟨dst, .call { callee := .builtin .append, args := #[x, y], argTypes := #[t, tx] }, ty, pos, af, g⟩ a w R := by
    intro base cap hv hcap hold
    subst hv
    have hsmall : m + q ≤ 9223372036854775807 := by simp only [maxLen] at h63; omega
    have hr := run_append_grow_src (P := P) w t tx ty E i z (elOf_und hT) hi hiz base m cap cs hold y0 q news (by rw [his]; exact hsrc) hcap (by omega) (growslice_fits hcap (by rw [hib]; exact hbytes))
    refine run hr (h _ _ ?_)
    have hge := grownCap_ge w (m + q) cap E
    have hcm := grownCap_le_maxLen w (m + q) cap E h63
    generalize hgc : grownCap w (m + q) cap E = gc at *
    have hal := hS.drew.alloc ((cs ++ news) ++ (Builtin.zeroCells z.cells (gc - (m + q))).toList) E
    have hww : (w.drew.alloc (.cells ((cs ++ news) ++ (Builtin.zeroCells z.cells (gc - (m + q))).toList).toArray E)) = w.drew.alloc (.cells ((cs ++ news).toArray ++ Builtin.zeroCells z.cells (gc - (m + q))) E) := by
      congr 2
      apply Array.ext'
      simp
    rw [hww] at hal
    have hlen : (cs ++ news).length = (m + q) * (k + 1) := by rw [List.length_append, h1, hsrc.newsLen, Nat.add_mul]
    have hc1 := hal.conv (As := [slo E (k + 1) (m + q) (.slice (some ⟨w.heap.size, 0, none⟩) (m + q) gc) (cs ++ news)]) At.here (fun F hF => ⟨F, fun _ h => h, Sep.one ⟨hlen, h63, .inr ⟨w.heap.size, 0, gc, _, rfl, hF.1, hF.2.1, hF.2.2, hge, hcm, ?_, fun j u hj => ?_⟩, fun c hc => (pts _ _ E).dom F _ c hF hc⟩⟩)
    · obtain ⟨L2, hat2⟩ : ∃ L2, L2 = L' := ⟨_, rfl⟩
      subst hat2
      refine hc1.sub ?_
      exact .cons At.here (by
        have : ∀ {A : HP} {X Y : List HP}, At A X Y → Sub Y X := by
          intro A X Y h
          induction h with
          | here => exact Sub.cons_drop
          | there _ ih => exact .cons At.here ih
        exact this hat)
    · have e1 : z.cells.size = k + 1 := hzs
      rw [List.size_toArray, List.length_append, hlen, Array.length_toList, size_zeroCells, e1, ← Nat.add_mul, Nat.zero_add]
      rw [show m + q + (gc - (m + q)) = gc by omega]
      exact Nat.le_refl _
    · have hlt : j < (cs ++ news).length := by
        rcases Nat.lt_or_ge j (cs ++ news).length with h' | h'
        · exact h'
        · rw [List.getElem?_eq_none h'] at hj; cases hj
      rw [Nat.zero_add, List.getElem?_toArray, List.getElem?_append_left hlt]
      exact hj
  rcases h3 with ⟨hv, hm0⟩ | ⟨b, off, cap, cur, hv, hF, hF', hb, hn, hc, hs, hcell⟩
  · subst hv; subst hm0
    have hcs : cs = [] := List.eq_nil_of_length_eq_zero (by simpa using h1)
    subst hcs
    by_cases hq : q = 0
    · subst hq
      have hnews : news = [] := List.eq_nil_of_length_eq_zero (by simpa using hsrc.newsLen)
      subst hnews
      have hr : (Builtin.append_ #[t, tx] ty #[.slice none 0 0, y0]).run P w = .ok (.slice none 0 0) w := by
        rcases hsrc.kind with ⟨e', hk'⟩ | hk' <;> simp [Builtin.append_, run_underlying (elOf_und hT), run_underlying hk', sizeOf, typeInfo, hi, hsrc.len, his, hsrc.cells]
      refine run hr (h _ _ ?_)
      exact hS.sub (.cons hat .refl)
    · exact fresh none 0 rfl (by omega) (by simp [Builtin.firstCells])
  · subst hv
    by_cases hroom : m + q ≤ cap
    · obtain ⟨vs, hP, hvl, _, hcm, _, hvs⟩ := hS.ownPts hat
      have hnl := hsrc.newsLen
      have hfit : off + m * (k + 1) + news.length ≤ vs.length := by
        rw [hnl]
        have : (m + q) * (k + 1) ≤ cap * (k + 1) := Nat.mul_le_mul_right _ hroom
        rw [Nat.add_mul] at this
        omega
      obtain ⟨w', hr, hS'⟩ := run_storeCells_own (P := P) news (off + m * (k + 1)) 0 vs w hP At.here hsrc.one (by simpa using hfit)
      have hr2 : (Builtin.append_ #[t, tx] ty #[.slice (some ⟨b, off, none⟩) m cap, y0]).run P w = .ok (.slice (some ⟨b, off, none⟩) (m + q) cap) w' := by
        rcases hsrc.kind with ⟨e', hk'⟩ | hk' <;> simp [Builtin.append_, run_underlying (elOf_und hT), run_underlying hk', sizeOf, typeInfo, hi, hsrc.len, hroom, his, hsrc.cells, addr_add, hr]
      refine run hr2 (h _ _ ?_)
      simp only [Nat.add_zero] at hS'
      refine hS'.conv (As := [_]) At.here (fun F hF => ⟨F, fun _ h => h, Sep.one ⟨by rw [List.length_append, h1, hnl, Nat.add_mul], h63, .inr ⟨b, off, cap, _, rfl, hF.1, hF.2.1, hF.2.2, hroom, hcm, by rw [List.size_toArray, splice_len]; exact hvl, fun j u hj => ?_⟩, fun c hc => (pts _ _ E).dom F _ c hF hc⟩⟩)
      rw [List.getElem?_toArray, splice_get _ _ _ _ hfit]
      by_cases hjc : j < cs.length
      · rw [List.getElem?_append_left hjc] at hj
        rw [if_neg (by rw [h1] at hjc; omega)]
        exact hvs j u hj
      · rw [List.getElem?_append_right (by omega)] at hj
        have hjn : j - cs.length < news.length := by
          rcases Nat.lt_or_ge (j - cs.length) news.length with h' | h'
          · exact h'
          · rw [List.getElem?_eq_none h'] at hj; cases hj
        rw [h1] at hj hjn hjc
        rw [if_pos (by omega)]
        rw [show off + j - (off + m * (k + 1)) = j - m * (k + 1) by omega]
        exact hj
    · refine fresh _ cap rfl (by omega) ?_
      rw [his]
      refine run_firstCells_some w.drew (k + 1) m ⟨b, off, none⟩ m cap cs h1 (fun j u hj => ?_)
      rw [addr_add]
      have := cell_of_row w b (off + j) _ E _ hb
      show w.cell? ⟨b, off + j, none⟩ = some u
      rw [this]
      exact hcell j u hj

end
end Go.Proofs.Ytcahaaapmaahnaa
namespace Go.Proofs.Ytcahaaapmaahnaa
variable {df : List Deferred}
variable {rr : Option Nat}
open Go.RowKit

inductive KP (l : List (Nat × Value)) : List Nat → List (Nat × Value) → Prop
  | nil : KP l [] []
  | cons {t : Nat} {v : Value} {ts : List Nat} {r : List (Nat × Value)} (h : lk l t = some v) (hr : KP l ts r) : KP l (t :: ts) ((t, v) :: r)

theorem KP.sub {l : List (Nat × Value)} {ts : List Nat} {r : List (Nat × Value)} (h : KP l ts r) : subK l r := by
  induction h with
  | nil => trivial
  | cons h _ ih => exact ⟨h, ih⟩

theorem Kn.keep {n : Nat} {a : Act} {l r : List (Nat × Value)} {ts : List Nat} (hk : Kn df n a l) (h : KP l ts r) : Kn df n a r := hk.sub h.sub

def subD (l : List (Nat × Value)) : List Nat → List (Nat × Value) → Prop
  | _, [] => True
  | seen, (x, v) :: r => (match seen.contains x with | true => True | false => lk l x = some v) ∧ subD l (x :: seen) r

theorem subD.get {l : List (Nat × Value)} : ∀ {r : List (Nat × Value)} {seen : List Nat}, subD l seen r → ∀ x v, seen.contains x = false → lk r x = some v → lk l x = some v
  | [], _, _, _, _, _, h => by simp [lk] at h
  | (y, u) :: r, seen, ⟨h1, h2⟩, x, v, hs, h => by
    by_cases hx : y = x
    · subst hx
      rw [lk_cons_same] at h
      injection h with h
      subst h
      rw [hs] at h1
      exact h1
    · rw [lk_cons_ne u r hx] at h
      refine subD.get h2 x v ?_ h
      simp only [List.contains_cons, hs, Bool.or_false, beq_eq_false_iff_ne, ne_eq]
      exact fun e => hx e.symm

theorem Kn.subD {n : Nat} {a : Act} {l r : List (Nat × Value)} (hk : Kn df n a l) (h : Proofs.Ytcahaaapmaahnaa.subD l [] r) : Kn df n a r :=
  ⟨hk.size, fun x v hx => hk.get x v (h.get x v rfl hx), hk.defers⟩

section
variable {P : Program} {Q : Exit → Act → World → Prop} {a : Act} {w : World} {w0 : Bs} {n : Nat} {l0 : List (Nat × Value)}

theorem lk_app {V l : List (Nat × Value)} {x : Nat} {v : Value} : lk (V ++ l) x = some v → lk V x = some v ∨ (lk V x = none ∧ lk l x = some v) := by
  induction V with
  | nil => intro h; exact .inr ⟨rfl, h⟩
  | cons p V ih =>
    obtain ⟨y, u⟩ := p
    intro h
    by_cases hx : y = x
    · subst hx
      simp only [List.cons_append, lk_cons_same] at h ⊢
      exact .inl h
    · simp only [List.cons_append, lk_cons_ne _ _ hx] at h ⊢
      exact ih h

theorem Kn.app {V : List (Nat × Value)} (hk : Kn df n a l0) (hV : subK l0 V) : Kn df n a (V ++ l0) :=
  ⟨hk.size, fun x v hx => by
    rcases lk_app hx with h | ⟨_, h⟩
    · exact hk.get x v (hV.lk x v h)
    · exact hk.get x v h, hk.defers⟩

theorem wp_for {ι : Type} {c : Code} (N : Nat) (V : Nat → ι → List (Nat × Value)) (Ls : Nat → ι → List HP) (F : Nat → ι → Prop) (x0 : ι) (hk : Kn df n a l0) (hV : subK l0 (V 0 x0)) (hS : St w0 (Ls 0 x0) w) (hF : F 0 x0)
    (step : ∀ (i : Nat) (x : ι) (a : Act) (w : World), i ≤ N → Kn df n a (V i x ++ l0) → St w0 (Ls i x) w → F i x →
      c.wpIn (FR rr) 0 P (Exit.then (fun a' w' => i < N ∧ ∃ x', Kn df n a' (V (i + 1) x' ++ l0) ∧ St w0 (Ls (i + 1) x') w' ∧ F (i + 1) x') Q) a w) : (Code.loop c).wpIn (FR rr) 0 P Q a w := by
  refine wp_loopN (fun k a w => ∃ i x, i ≤ N ∧ k = N - i ∧ Kn df n a (V i x ++ l0) ∧ St w0 (Ls i x) w ∧ F i x) (k := N) ⟨0, x0, by omega, by omega, hk.app hV, hS, hF⟩ ?_
  rintro k a w ⟨i, x, hi, rfl, hk, hS, hF⟩
  refine wpIn_mono (step i x a w hi hk hS hF) ?_
  intro e a' w' hq
  cases e with
  | normal =>
    obtain ⟨hlt, x', h1, h2, h3⟩ := hq
    exact ⟨N - (i + 1), by omega, i + 1, x', by omega, rfl, h1, h2, h3⟩
  | exit i => exact hq
  | goto i => exact hq
  | ret => exact hq
  | panic c => exact hq
  | outgrown => exact hq
end
end Go.Proofs.Ytcahaaapmaahnaa
namespace Go.Proofs.Ytcahaaapmaahnaa
variable {df : List Deferred}
open Go.RowKit

section
variable {κ : Type}
def mapH (enc : κ → Value) (v : Value) (l : List (κ × Value)) : HP where
  holds F w := ∃ b es c, v = .map (some b) ∧ F b ∧ (∀ c, F c → c = b) ∧ w.heap[b]? = some (.map es c) ∧ es.toList.map (fun e => (e.key, e.val)) = l.map (fun p => (enc p.1, p.2)) ∧ (l.map Prod.fst).Nodup
  stable := fun F w w' ⟨b, es, c, h1, h2, h3, h4, h5⟩ h => ⟨b, es, c, h1, h2, h3, by rw [h b h2]; exact h4, h5⟩
  dom := fun F w x ⟨b, es, c, h1, h2, h3, h4, h5⟩ hx => by
    rw [h3 x hx]
    rcases Nat.lt_or_ge b w.heap.size with h' | h'
    · exact h'
    · rw [Array.getElem?_eq_none h'] at h4; cases h4

variable {P : Program} {a : Act} {w w' : World} {w0 : Bs} {n : Nat} {l : List (Nat × Value)} {L L' : List HP}
  {dst : Option Nat} {R : Value → World → Prop} {ty : TypeId} {pos : String} {af : Array Edge} {g : Option (Nat × Bool)} {enc : κ → Value} {K E T : TypeId} {m : List (κ × Value)}

end

section
variable {κ : Type} [DecidableEq κ]

def posK (k : κ) : List (κ × Value) → Nat → Option (Nat × Value)
  | [], _ => none
  | (k', v) :: r, i => if k = k' then some (i, v) else posK k r (i + 1)
def getL (l : List (κ × Value)) (k : κ) : Option Value := (posK k l 0).map (·.2)
def setL : List (κ × Value) → κ → Value → List (κ × Value)
  | [], k, v => [(k, v)]
  | (k', v') :: r, k, v => if k = k' then (k, v) :: r else (k', v') :: setL r k v
def delL : List (κ × Value) → κ → List (κ × Value)
  | [], _ => []
  | (k', v') :: r, k => if k = k' then r else (k', v') :: delL r k

structure KeyT (P : Program) (K : TypeId) (enc : κ → Value) : Prop where
  check : ∀ b k (w : World), (Instr.checkKey b 10000 K (enc k)).run P w = .ok () w
  find : ∀ (k : κ) (es : List MapEntry) (l : List (κ × Value)) (w : World), es.map (fun e => (e.key, e.val)) = l.map (fun p => (enc p.1, p.2)) → (Instr.findKey K (enc k) es).run P w = .ok (posK k l 0) w
  bits : ∀ k, Instr.sameBits 10000 (enc k) (enc k) = true

variable {P : Program} {a : Act} {w w' : World} {w0 : Bs} {n : Nat} {l : List (Nat × Value)} {L L' : List HP}
  {dst : Option Nat} {R : Value → World → Prop} {ty : TypeId} {pos : String} {af : Array Edge} {g : Option (Nat × Bool)} {enc : κ → Value} {K E T : TypeId} {m : List (κ × Value)}

end
end Go.Proofs.Ytcahaaapmaahnaa
namespace Go.Proofs.Ytcahaaapmaahnaa
variable {df : List Deferred}
open Go.RowKit

class Enc (α : Type) where
  k : Nat
  f : α → List Value
  len : ∀ x, (f x).length = k + 1
  one : ∀ x, ∀ u ∈ f x, u.oneCell' = true

instance encInt : Enc Int := ⟨0, fun n => [.int .i64 n], fun _ => rfl, fun _ u h => by rw [List.mem_singleton] at h; subst h; rfl⟩
instance encStr : Enc ByteArray := ⟨0, fun s => [.string s], fun _ => rfl, fun _ u h => by rw [List.mem_singleton] at h; subst h; rfl⟩
instance encBool : Enc Bool := ⟨0, fun b => [.bool b], fun _ => rfl, fun _ u h => by rw [List.mem_singleton] at h; subst h; rfl⟩
structure Hd where
  a : Option Addr
  n : Nat
  c : Nat
def Hd.v (h : Hd) : Value := .slice h.a h.n h.c
instance encHd : Enc Hd := ⟨0, fun h => [h.v], fun _ => rfl, fun _ u h => by rw [List.mem_singleton] at h; subst h; rfl⟩
instance encProd {α β : Type} [Enc α] [Enc β] : Enc (α × β) := ⟨Enc.k α + Enc.k β + 1, fun p => Enc.f p.1 ++ Enc.f p.2, fun p => by rw [List.length_append, Enc.len, Enc.len]; omega,
  fun p u h => (List.mem_append.1 h).elim (Enc.one p.1 u) (Enc.one p.2 u)⟩

section
variable {α : Type} [Enc α]
def enc (xs : List α) : List Value := xs.flatMap Enc.f

theorem enc_len : ∀ xs : List α, (enc xs).length = xs.length * (Enc.k α + 1)
  | [] => by simp [enc]
  | x :: xs => by
    have := enc_len xs
    unfold enc at this ⊢
    rw [List.flatMap_cons, List.length_append, Enc.len, this, List.length_cons, Nat.add_mul]
    omega

theorem enc_cons (x : α) (xs : List α) : enc (x :: xs) = Enc.f x ++ enc xs := by simp [enc]
theorem enc_append (xs ys : List α) : enc (xs ++ ys) = enc xs ++ enc ys := by simp [enc]

theorem enc_get : ∀ (xs : List α) (i : Nat) (hi : i < xs.length), ((enc xs).drop (i * (Enc.k α + 1))).take (Enc.k α + 1) = Enc.f xs[i]
  | x :: xs, 0, _ => by
    rw [enc_cons, Nat.zero_mul, List.drop_zero, ← Enc.len x]
    simp
  | x :: xs, i + 1, hi => by
    have := enc_get xs i (by simpa using hi)
    rw [enc_cons, show (i + 1) * (Enc.k α + 1) = (Enc.f x).length + i * (Enc.k α + 1) by rw [Enc.len, Nat.add_mul]; omega, List.drop_length_add_append]
    simpa using this

theorem enc_one (xs : List α) : ∀ u ∈ enc xs, u.oneCell' = true := fun u h => by
  obtain ⟨x, _, hx⟩ := List.mem_flatMap.1 h
  exact Enc.one x u hx

theorem enc_drop : ∀ (xs : List α) (i : Nat), (enc xs).drop (i * (Enc.k α + 1)) = enc (xs.drop i)
  | xs, 0 => by simp
  | [], i + 1 => by simp [enc]
  | x :: xs, i + 1 => by
    rw [enc_cons, show (i + 1) * (Enc.k α + 1) = (Enc.f x).length + i * (Enc.k α + 1) by rw [Enc.len, Nat.add_mul]; omega, List.drop_length_add_append, enc_drop xs i]
    rfl
theorem enc_take : ∀ (xs : List α) (i : Nat), (enc xs).take (i * (Enc.k α + 1)) = enc (xs.take i)
  | xs, 0 => by simp [enc]
  | [], i + 1 => by simp [enc]
  | x :: xs, i + 1 => by
    rw [enc_cons, show (i + 1) * (Enc.k α + 1) = (Enc.f x).length + i * (Enc.k α + 1) by rw [Enc.len, Nat.add_mul]; omega, List.take_length_add_append, enc_take xs i, List.take_succ_cons, enc_cons]

def SlT (xs : List α) (v : Value) (w : World) : Prop := Slr (Enc.k α + 1) xs.length v (enc xs) w
def OwT (E : TypeId) (xs : List α) (v : Value) : HP := slo E (Enc.k α + 1) xs.length v (enc xs)

theorem St.rdT {w0 : Bs} {w : World} {L : List HP} (hS : St w0 L w) {xs : List α} {v : Value} (h : SlT xs v w0.g) : SlT xs v w := St.slr hS h
theorem SlT.frz {xs : List α} {v : Value} {w w' : World} (h : SlT xs v w) (hb : Frz w w') : SlT xs v w' := Slr.frz h hb
theorem OwT.rd {E : TypeId} {xs : List α} {v : Value} {w : World} (h : (OwT E xs v).rd w) : SlT xs v w := slo.slr h

theorem SlT.at {xs : List α} {v : Value} {w : World} (h : SlT xs v w) {i : Nat} (hi : i < xs.length) : Cells (blk v) (offs v + i * (Enc.k α + 1)) (Enc.f xs[i]) w := by
  have := Slr.cells h (i := i)
  rw [enc_get xs i hi] at this
  exact this

theorem SlT.len_le {xs : List α} {v : Value} {w : World} (h : SlT xs v w) : xs.length ≤ maxLen := h.2.1
theorem SlT.nil (w : World) : SlT ([] : List α) (.slice none 0 0) w := ⟨by simp [enc], by simp [maxLen], .inl ⟨rfl, rfl⟩⟩

theorem St.nilT {w0 : Bs} {w : World} {L : List HP} (h : St w0 L w) (E : TypeId) (α : Type) [Enc α] : St w0 (OwT E ([] : List α) (.slice none 0 0) :: L) w := h.ownNil E _

theorem SlT.shape {xs : List α} {v : Value} {w : World} (h : SlT xs v w) : ∃ ao c, v = .slice ao xs.length c ∧ (ao = none → xs = [] ∧ c = 0) ∧ xs.length ≤ c ∧ c ≤ maxLen := by
  rcases h.2.2 with ⟨hv, h0⟩ | ⟨a, c, hv, hc, hm, _⟩
  · refine ⟨none, 0, by rw [hv, h0], fun _ => ⟨List.eq_nil_of_length_eq_zero h0, rfl⟩, by omega, by simp⟩
  · refine ⟨some a, c, hv, fun h => ?_, hc, hm⟩
    cases h

end

section
variable {P : Program} {a : Act} {w w' : World} {w0 : Bs} {n : Nat} {l : List (Nat × Value)} {L L' : List HP}
  {dst : Option Nat} {R : Value → World → Prop} {ty : TypeId} {pos : String} {af : Array Edge} {g : Option (Nat × Bool)} {α : Type} [Enc α]

theorem g_lenT {x : Operand} {t : TypeId} {v : Value} {xs : List α} (hk : Kn df n a l) (h : R (.int .i64 xs.length) w) (hx : ev l x = some v := by rfl) {E : Nat} (ht : elOf P t = some E) (hs : SlT xs v w) :
    Gives P ⟨dst, .call { callee := .builtin .len, args := #[x], argTypes := #[t] }, ty, pos, af, g⟩ a w R :=
  g_lenSl hk hs h ht hx

theorem g_ixT {x y : Operand} {t : TypeId} {i : Nat} {v : Value} {xs : List α} {E : Nat} {kk : IntKind} (hk : Kn df n a l) (h : R (.pointer (some ⟨blk v, offs v + i * (Enc.k α + 1), none⟩)) w)
    (hx : ev l x = some v := by rfl) (hy : ev l y = some (.int kk (i : Int)) := by rfl) (ht : elOf P t = some E) (hs : SlT xs v w) (hi : i < xs.length) (hE : szOf P E = some (Enc.k α + 1)) :
    Gives P ⟨dst, .indexAddr t x y, ty, pos, af, g⟩ a w R := g_index hk hs hi h ht hE hx hy

theorem g_ixTi {x y : Operand} {t : TypeId} {p : Int} {v : Value} {xs : List α} {E : Nat} {kk : IntKind} (hk : Kn df n a l) (h : R (.pointer (some ⟨blk v, offs v + p.toNat * (Enc.k α + 1), none⟩)) w)
    (hx : ev l x = some v := by rfl) (hy : ev l y = some (.int kk p) := by rfl) (ht : elOf P t = some E) (hs : SlT xs v w) (h0 : 0 ≤ p) (hi : p < xs.length) (hE : szOf P E = some (Enc.k α + 1)) :
    Gives P ⟨dst, .indexAddr t x y, ty, pos, af, g⟩ a w R :=
  g_index (i := p.toNat) hk hs (by omega) h ht hE hx (by rw [Int.toNat_of_nonneg h0]; exact hy)

theorem SlT.get {xs : List α} {v : Value} {w : World} (h : SlT xs v w) {i : Nat} {x : α} (hi : xs[i]? = some x) : Cells (blk v) (offs v + i * (Enc.k α + 1)) (Enc.f x) w := by
  obtain ⟨h1, rfl⟩ := List.getElem?_eq_some_iff.1 hi
  exact h.at h1
theorem take_snoc {β : Type} {xs : List β} {i : Nat} {x : β} (h : xs[i]? = some x) : xs.take (i + 1) = xs.take i ++ [x] := by
  rw [List.take_add_one, h]; rfl
theorem lt_of_get {β : Type} {xs : List β} {i : Nat} {x : β} (h : xs[i]? = some x) : i < xs.length := (List.getElem?_eq_some_iff.1 h).1

theorem g_ldT1 {x : Operand} {T : TypeId} {v : Value} {i : Nat} {xs : List α} {e : α} {u : Value} (hk : Kn df n a l) (h : R u w) (hT : aggOf P T = some false)
    (hx : ev l x = some (.pointer (some ⟨blk v, offs v + i * (Enc.k α + 1), none⟩)) := by rfl) (hs : SlT xs v w) (hi : xs[i]? = some e) (hu : Enc.f e = [u] := by rfl) :
    Gives P ⟨dst, .load T x, ty, pos, af, g⟩ a w R := by
  have hc := hs.get hi
  rw [hu] at hc
  exact g_load1 hk h hT (hc.get (j := 0) rfl) hx

theorem g_ldTN {x : Operand} {T : TypeId} {v : Value} {i : Nat} {xs : List α} {e : α} {us : List Value} (hk : Kn df n a l) (h : R (.agg us.toArray) w) (hT : aggOf P T = some true)
    (hx : ev l x = some (.pointer (some ⟨blk v, offs v + i * (Enc.k α + 1), none⟩)) := by rfl) (hs : SlT xs v w) (hi : xs[i]? = some e) (hu : Enc.f e = us) (hz : szOf P T = some (Enc.k α + 1)) :
    Gives P ⟨dst, .load T x, ty, pos, af, g⟩ a w R := by
  subst hu
  refine g_loadN hk h hT (hs.get hi) ?_ hx
  rw [Enc.len]; exact hz

theorem g_ldTF {x : Operand} {T : TypeId} {v : Value} {i f : Nat} {xs : List α} {e : α} {u : Value} (hk : Kn df n a l) (h : R u w) (hT : aggOf P T = some false)
    (hx : ev l x = some (.pointer (some ⟨blk v, offs v + i * (Enc.k α + 1) + f, none⟩)) := by rfl) (hs : SlT xs v w) (hi : xs[i]? = some e) (hu : (Enc.f e)[f]? = some u := by rfl) :
    Gives P ⟨dst, .load T x, ty, pos, af, g⟩ a w R :=
  g_load1 hk h hT ((hs.get hi).get hu) hx

theorem Src.ofT {tx E : TypeId} {ys : List α} {v : Value} (hT : elOf P tx = some E) (hs : SlT ys v w) : Src P (Enc.k α + 1) tx v ys.length (enc ys) w := by
  obtain ⟨h1, h2, h3⟩ := hs
  rcases h3 with ⟨rfl, h0⟩ | ⟨ad, c, rfl, hn, hc, hcell⟩
  · have : ys = [] := List.eq_nil_of_length_eq_zero h0
    subst this
    exact Src.ofNil w (elOf_und hT) 0
  · refine Src.ofSlice w (elOf_und hT) ad _ c (enc ys) h1 (fun j u hj => ?_) (enc_one ys)
    obtain ⟨hsp, hcl⟩ := hcell j u hj
    obtain ⟨b, o, sp⟩ := ad
    simp only at hsp
    subst hsp
    rw [addr_add]
    exact hcl

theorem g_appT {x y : Operand} {t tx : TypeId} {E E' : Nat} {v y0 z : Value} {xs ys : List α} (hk : Kn df n a l) (hS : St w0 L w)
    (h : ∀ w' v', St w0 (OwT E (xs ++ ys) v' :: L') w' → R v' w')
    (hx : ev l x = some v := by rfl) (hy : ev l y = some y0 := by rfl)
    (hat : At (OwT E xs v) L L' := by (repeat (first | exact At.here | apply At.there)))
    (hT : elOf P t = some E) (hTx : elOf P tx = some E') (hE : szOf P E = some (Enc.k α + 1)) (hz : zeroOf P E = some z) (hzs : z.cells.size = Enc.k α + 1) (hs : SlT ys y0 w) {by_ : Nat} (hby : ((P.info? E).map (·.bytes)).getD 0 = by_) (hbytes : (xs.length + ys.length) * by_ ≤ 140737488355328) (h63 : xs.length + ys.length ≤ maxLen) :
    Gives P ⟨dst, .call { callee := .builtin .append, args := #[x, y], argTypes := #[t, tx] }, ty, pos, af, g⟩ a w R :=
  g_append hk hS (Src.ofT hTx hs) (fun w' v' hS' => h w' v' (by
    have : OwT E (xs ++ ys) v' = slo E (Enc.k α + 1) (xs.length + ys.length) v' (enc xs ++ enc ys) := by unfold OwT; rw [enc_append, List.length_append]
    rw [this]; exact hS')) hT hE hz hzs h63 hby hbytes hx hy hat

theorem At.rest {A : HP} {X Y : List HP} (h : At A X Y) : Sub Y X := by
  induction h with
  | here => exact Sub.cons_drop
  | there _ ih => exact .cons At.here ih

theorem g_appD {x y : Operand} {t tx : TypeId} {E E' : Nat} {v y0 z : Value} {xs ys : List α} {L'' : List HP} (hk : Kn df n a l) (hS : St w0 L w)
    (h : ∀ w' v', St w0 (OwT E (xs ++ ys) v' :: L'') w' → R v' w')
    (hx : ev l x = some v := by rfl) (hy : ev l y = some y0 := by rfl)
    (hat : At (OwT E xs v) L L' := by (repeat (first | exact At.here | apply At.there)))
    (hT : elOf P t = some E) (hTx : elOf P tx = some E')
    (hat2 : At (OwT E' ys y0) L' L'' := by (repeat (first | exact At.here | apply At.there)))
    (hE : szOf P E = some (Enc.k α + 1)) (hz : zeroOf P E = some z) (hzs : z.cells.size = Enc.k α + 1) {by_ : Nat} (hby : ((P.info? E).map (·.bytes)).getD 0 = by_) (hbytes : (xs.length + ys.length) * by_ ≤ 140737488355328) (h63 : xs.length + ys.length ≤ maxLen) :
    Gives P ⟨dst, .call { callee := .builtin .append, args := #[x, y], argTypes := #[t, tx] }, ty, pos, af, g⟩ a w R :=
  g_appT hk hS (fun w' v' hS' => h w' v' (hS'.sub (.cons .here hat2.rest))) hx hy hat hT hTx hE hz hzs (OwT.rd (hS.sub hat.rest |>.rd hat2)) hby hbytes h63

theorem g_bsT {T E : Nat} {q : List (Nat × Operand)} {vals : List (Nat × Value)} {z : Value} {xs : List α} {m : Nat} (hk : Kn df n a l) (hS : St w0 L w)
    (h : ∀ w' v, St w0 (OwT E xs v :: L) w' → R v w')
    (hp : evP l q = some vals := by rfl)
    (hT : elOf P T = some E) (hE : szOf P E = some (Enc.k α + 1)) (hz : zeroOf P E = some z)
    (hb : bldP (fun i => some (i * (Enc.k α + 1), Enc.k α + 1)) (zerosL z (m + 1) (Enc.k α + 1)) vals = some (enc xs) := by rfl) (hl : xs.length = m + 1 := by rfl) (hm : Nat.ble ((m + 1) * (Enc.k α + 1)) 16777216 = true := by rfl) :
    Gives P ⟨dst, .buildSlice T (m + 1) q.toArray, ty, pos, af, g⟩ a w R :=
  g_buildSlice hk hS (fun w' v hS' => h w' v (by unfold OwT; rw [hl]; exact hS')) hT hE hz hp hb (by rw [enc_len, hl]) hm

theorem enc_set : ∀ (xs : List α) (i : Nat) (y : α), i < xs.length → ∀ j, (enc (xs.set i y))[j]? = if i * (Enc.k α + 1) ≤ j ∧ j < i * (Enc.k α + 1) + (Enc.k α + 1) then (Enc.f y)[j - i * (Enc.k α + 1)]? else (enc xs)[j]?
  | [], i, _, h, _ => by simp at h
  | x :: xs, 0, y, _, j => by
    simp only [List.set_cons_zero, enc_cons, Nat.zero_mul, Nat.zero_add, Nat.zero_le, true_and, Nat.sub_zero]
    by_cases hj : j < Enc.k α + 1
    · rw [if_pos hj, List.getElem?_append_left (by rw [Enc.len]; exact hj)]
    · rw [if_neg hj, List.getElem?_append_right (by rw [Enc.len]; omega), List.getElem?_append_right (by rw [Enc.len]; omega), Enc.len, Enc.len]
  | x :: xs, i + 1, y, h, j => by
    have ih := enc_set xs i y (by simpa using h)
    simp only [List.set_cons_succ, enc_cons]
    rw [Nat.add_mul, Nat.one_mul]
    by_cases hj : j < Enc.k α + 1
    · rw [List.getElem?_append_left (by rw [Enc.len]; exact hj), List.getElem?_append_left (by rw [Enc.len]; exact hj), if_neg (by omega)]
    · rw [List.getElem?_append_right (by rw [Enc.len]; omega), List.getElem?_append_right (by rw [Enc.len]; omega), Enc.len, ih]
      by_cases h1 : i * (Enc.k α + 1) ≤ j - (Enc.k α + 1) ∧ j - (Enc.k α + 1) < i * (Enc.k α + 1) + (Enc.k α + 1)
      · rw [if_pos h1, if_pos (by omega)]
        congr 1
        omega
      · rw [if_neg h1, if_neg (by omega)]

theorem mul_lt_of {i m k : Nat} (h : i < m) : i * (k + 1) + (k + 1) ≤ m * (k + 1) := by
  have := Nat.mul_le_mul_right (k + 1) h
  rwa [Nat.succ_mul] at this

theorem St.setT {E : TypeId} {v : Value} {i : Nat} {xs : List α} {y : α} (hS : St w0 L w) (hat : At (OwT E xs v) L L') (hi : i < xs.length) :
    ∃ w', (storeCells ⟨blk v, offs v + i * (Enc.k α + 1), none⟩ (Enc.f y) 0).run P w = .ok () w' ∧ St w0 (OwT E (xs.set i y) v :: L') w' := by
  obtain ⟨F0, _, _, h3, _⟩ := hS.rd hat
  rcases h3 with ⟨_, h0⟩ | ⟨b, off, cap, cur, rfl, _⟩
  · omega
  · obtain ⟨vs, hP, hvl, hn, hcm, hcl, hvs⟩ := hS.ownPts hat
    have hle := mul_lt_of (k := Enc.k α) hi
    have hle2 : xs.length * (Enc.k α + 1) ≤ cap * (Enc.k α + 1) := Nat.mul_le_mul_right _ hn
    have hfit : off + i * (Enc.k α + 1) + (Enc.f y).length ≤ vs.length := by rw [Enc.len]; omega
    obtain ⟨w', hr, hS'⟩ := run_storeCells_own (P := P) (Enc.f y) (off + i * (Enc.k α + 1)) 0 vs w hP At.here (Enc.one y) (by simpa using hfit)
    refine ⟨w', hr, ?_⟩
    simp only [Nat.add_zero] at hS'
    refine hS'.conv (As := [_]) At.here (fun F hF => ⟨F, fun _ h => h, Sep.one ⟨by rw [enc_len], by rw [List.length_set]; exact Nat.le_trans hn hcm, .inr ⟨b, off, cap, _, by rw [List.length_set], hF.1, hF.2.1, hF.2.2, by rw [List.length_set]; exact hn, hcm, by rw [List.size_toArray, splice_len]; exact hvl, fun j u hj => ?_⟩, fun c hc => (pts _ _ E).dom F _ c hF hc⟩⟩)
    rw [List.getElem?_toArray, splice_get _ _ _ _ hfit, Enc.len]
    rw [enc_set xs i y hi] at hj
    by_cases h1 : i * (Enc.k α + 1) ≤ j ∧ j < i * (Enc.k α + 1) + (Enc.k α + 1)
    · rw [if_pos h1] at hj
      rw [if_pos (by omega), show off + j - (off + i * (Enc.k α + 1)) = j - i * (Enc.k α + 1) by omega]
      exact hj
    · rw [if_neg h1] at hj
      rw [if_neg (by omega)]
      exact hvs j u hj

theorem g_stT {x y : Operand} {T E : TypeId} {v u : Value} {i : Nat} {xs : List α} {z : α} (hk : Kn df n a l) (hS : St w0 L w) (h : ∀ w', St w0 (OwT E (xs.set i z) v :: L') w' → R undef w')
    (hx : ev l x = some (.pointer (some ⟨blk v, offs v + i * (Enc.k α + 1), none⟩)) := by rfl) (hy : ev l y = some u := by rfl) (hat : At (OwT E xs v) L L' := by (repeat (first | exact At.here | apply At.there)))
    (hu : u.cells.toList = Enc.f z := by rfl) (hsz : szOf P T = some (Enc.k α + 1)) (hi : i < xs.length) :
    Gives P ⟨dst, .store T x y, ty, pos, af, g⟩ a w R := by
  obtain ⟨w', hr, hS'⟩ := St.setT (P := P) (y := z) hS hat hi
  refine givesu (w' := w') ?_ (h w' hS')
  have hv : u.cells = (Enc.f z).toArray := by rw [← hu]
  simp [execOp, hk.eval hx, hk.eval hy, Instr.storeAt, Instr.sureAddr, storeVar, szOf_run hsz, hv, hr, Enc.len]

theorem enc_rep (z : α) (m : Nat) : ∀ j, (enc (List.replicate m z))[j]? = if j < m * (Enc.k α + 1) then (Enc.f z)[j % (Enc.k α + 1)]? else none := by
  induction m with
  | zero => intro j; simp [enc]
  | succ m ih =>
    intro j
    rw [List.replicate_succ, enc_cons, Nat.add_mul, Nat.one_mul]
    by_cases hj : j < Enc.k α + 1
    · rw [List.getElem?_append_left (by rw [Enc.len]; exact hj), if_pos (by omega), Nat.mod_eq_of_lt hj]
    · rw [List.getElem?_append_right (by rw [Enc.len]; omega), Enc.len, ih]
      by_cases h1 : j - (Enc.k α + 1) < m * (Enc.k α + 1)
      · rw [if_pos h1, if_pos (by omega), ← Nat.mod_eq_sub_mod (by omega)]
      · rw [if_neg h1, if_neg (by omega)]

theorem g_mkT {x y : Operand} {T E m : Nat} {z : α} {zv : Value} {kk kl : IntKind} {by_ : Nat} (hk : Kn df n a l) (hS : St w0 L w) (h : ∀ w' v, St w0 (OwT E (List.replicate m z) v :: L) w' → R v w')
    (hx : ev l x = some (.int kk (m : Int)) := by rfl) (hy : ev l y = some (.int kl (m : Int)) := by rfl)
    (hT : elOf P T = some E) (hE : szOf P E = some (Enc.k α + 1)) (hz : zeroOf P E = some zv) (hzv : zv.cells.toList = Enc.f z := by rfl) (hby : ((P.info? E).map (·.bytes)).getD 0 = by_) (hm : m ≤ maxLen) (hbytes : by_ * m ≤ 281474976710656) :
    Gives P ⟨dst, .makeSlice T x y, ty, pos, af, g⟩ a w R := by
  obtain ⟨i, hi, his, hiz⟩ := byOf_info hE hz
  have hib : i.bytes = by_ := by rw [hi] at hby; exact hby
  have hbytes' : (i.bytes : Int) * (m : Int) ≤ 281474976710656 := by rw [hib]; exact Int.ofNat_le.2 hbytes
  have hm' : (m : Int) ≤ 9223372036854775807 := by simp only [maxLen] at hm; omega
  clear hbytes
  have hr := run_make (P := P) w T E i zv (elOf_und hT) hi hiz kk kl m m (by omega) (by omega) hbytes' hm'
  simp only [Int.toNat_natCast] at hr
  refine givesv (v := _) (w' := _) (by simp only [execOp, hk.eval hx, hk.eval hy]; rw [Sem.run_bind, hr]; rfl) (h _ _ ?_)
  have hl : (madeCells zv.cells (m * i.size)).toList = enc (List.replicate m z) := by
    apply List.ext_getElem?
    intro j
    rw [enc_rep, his]
    simp only [madeCells, Array.toList_map, Array.toList_range, List.getElem?_map]
    have hzs : zv.cells.size = Enc.k α + 1 := by rw [← Array.length_toList, hzv, Enc.len]
    by_cases hj : j < m * (Enc.k α + 1)
    · rw [if_pos hj, List.getElem?_range hj]
      have hlt : j % (Enc.k α + 1) < zv.cells.size := by rw [hzs]; exact Nat.mod_lt _ (by omega)
      rw [← hzv]
      simp only [hzs, Option.map_some, Array.getElem?_toList]
      rw [getElem!_pos zv.cells _ (by rw [hzs] at hlt; exact hzs ▸ hlt), getElem?_pos zv.cells _ (by rw [hzs] at hlt; exact hzs ▸ hlt)]
    · rw [if_neg hj, List.getElem?_eq_none (by simpa using hj)]
      rfl
  have := (hS.alloc (enc (List.replicate m z)) E).ptsOwn At.here (k := Enc.k α + 1) (n := m) (by rw [enc_len]; simp) hm
  rw [show (enc (List.replicate m z)).toArray = madeCells zv.cells (m * i.size) by rw [← hl]] at this
  unfold OwT
  rw [List.length_replicate]
  exact this

end
end Go.Proofs.Ytcahaaapmaahnaa
