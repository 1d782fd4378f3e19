/- From the form's reading of the arguments to what a walk asks; and from a law's walk to the row's contract. -/
import Derived.Test.YtakejjfmbgbedaaL8
import Derived.ProofKit
namespace Go.Proofs.Ytakejjfmbgbedaa
open Go.ChangeShapes Go.WideShapes Go.ChangeAt Go.RowKit

/-- What an argument's cells are, by its type. -/
def Rdg (P : Program) (W : World) : Nat → TypeId → List Value → Prop
  | 0, _, _ => True
  | D + 1, T, cs => match P.underlying T with
    | some .bool => ∃ b, cs = [.bool b]
    | some (.int k) => ∃ n, cs = [.int k n] ∧ k.min ≤ n ∧ n ≤ k.max
    | some .string => ∃ s : ByteArray, cs = [.string s] ∧ s.size ≤ maxLen
    | some (.slice e) => ∃ v, cs = [v] ∧ (v = .slice none 0 0 ∨ ∃ a len cap, v = .slice (some a) len cap ∧ len ≤ cap ∧ cap ≤ maxLen ∧
        ∀ i, i < len → ∃ us : List Value, us.length = P.cellsOf e ∧ (∀ j u, us[j]? = some u → W.cell? ((a.add (i * P.cellsOf e)).add j) = some u) ∧ Rdg P W D e us)
    | some (.struct fs) => cs.length = P.cellsOf T ∧ ∀ f ∈ fs.toList, Rdg P W D f.type ((cs.drop f.offset).take (P.cellsOf f.type))
    | _ => True

theorem cells?_get {w : World} {base : Nat} {a : Addr} {n : Nat} {us : List Value} (h : w.cells? base a n = some us) : us.length = n ∧ ∀ j u, us[j]? = some u → w.cell? (a.add j) = some u := by
  unfold World.cells? at h
  split at h
  · have h1 : us.length = n := by simpa using mapM_some_length h
    refine ⟨h1, fun j u hj => ?_⟩
    have hjn : j < n := by
      rcases Nat.lt_or_ge j us.length with h' | h'
      · omega
      · rw [List.getElem?_eq_none h'] at hj; cases hj
    have := mapM_some_get h j j (by simp [hjn])
    rw [this, hj]
  · cases h

theorem rdg_of_trod {H : Type} {enc : TypeId × Value → H} {P : Program} {W : World} {base : Nat} {spare : Nat → Bool} {held : Bool} : ∀ (fuel D : Nat) (T : TypeId) (cs : List Value) (d : DataW H) (ps : List MemPlace),
    DataW.trod enc P W base spare held fuel T cs = some (d, ps) → Rdg P W D T cs
  | 0, _, _, _, _, _, h => by simp [DataW.trod] at h
  | fuel + 1, 0, _, _, _, _, _ => trivial
  | fuel + 1, D + 1, T, cs, d, ps, h => by
    unfold Rdg
    cases hu : P.underlying T with
    | none => trivial
    | some dsc =>
      cases dsc <;> first | trivial | skip
      case bool =>
        obtain ⟨b, hb, _⟩ := DataW.trod_bool hu h
        exact ⟨b, hb⟩
      case int k =>
        obtain ⟨n, hn, _, hw⟩ := DataW.trod_int hu h
        simp only [Lit.wf, Bool.and_eq_true, decide_eq_true_eq] at hw
        exact ⟨n, hn, hw⟩
      case string =>
        obtain ⟨s, hs, _, hl⟩ := DataW.trod_string hu h
        exact ⟨s, hs, hl⟩
      case slice e =>
        rcases DataW.trod_slice hu h with ⟨hc, _⟩ | ⟨a, len, cap, elems, rest, n, hfu, hc, _, _, hl, hm, hel, hget, _⟩
        · exact ⟨_, hc, .inl rfl⟩
        · refine ⟨_, hc, .inr ⟨a, len, cap, rfl, hl, hm, fun i hi => ?_⟩⟩
          have h1 := hget i hi
          have hx : elems[i]? = some (elems[i]'(by omega)) := List.getElem?_eq_getElem (by omega)
          rw [hx, Option.bind_eq_some_iff] at h1
          obtain ⟨us, hus, htr⟩ := h1
          obtain ⟨hlen, hcell⟩ := cells?_get hus
          have hfn : fuel = n := by omega
          subst hfn
          exact ⟨us, hlen, hcell, rdg_of_trod fuel D e us _ _ htr⟩
      case struct fs =>
        obtain ⟨xs, n, hfu, _, hl, hlen, hget⟩ := DataW.trod_struct hu h
        refine ⟨hl, fun f hf => ?_⟩
        obtain ⟨i, hi⟩ := List.getElem?_of_mem hf
        have hi' : fs[i]? = some f := by simpa using hi
        have hlt : i < fs.size := by
          rcases Nat.lt_or_ge i fs.size with h' | h'
          · exact h'
          · rw [Array.getElem?_eq_none h'] at hi'; cases hi'
        have h1 := hget i f hi'
        have hx : xs[i]? = some (xs[i]'(by omega)) := List.getElem?_eq_getElem (by omega)
        rw [hx] at h1
        have hfn : fuel = n := by omega
        subst hfn
        exact rdg_of_trod fuel D f.type _ _ _ h1

/-- An argument: its cells by its type; a struct is its cells. -/
def Arg (P : Program) (W : World) (T : TypeId) (v : Value) : Prop := Rdg P W 8 T v.cells.toList ∧ (aggOf P T = some true → ∃ cs : List Value, v = .agg cs.toArray) ∧ (aggOf P T = some false → v.cells = #[v])

theorem arg_of {H : Type} {enc : TypeId × Value → H} {P : Program} {W : World} {base : Nat} {T : TypeId} {v : Value} {d : DataW H} {ps : List MemPlace} (hv : Value.okWide P W .any base T v) (h : DataW.Trod enc P W 0 (fun _ => true) true T v d ps) : Arg P W T v := by
  obtain ⟨fuel, hf⟩ := h
  refine ⟨rdg_of_trod fuel 8 T _ _ _ hf, fun ha => ?_, fun ha => ?_⟩
  rotate_left
  · unfold aggOf at ha
    unfold Value.okWide at hv
    cases hu : P.underlying T with
    | none => rw [hu] at ha; cases ha
    | some dsc =>
      rw [hu] at ha hv
      cases v <;> first
        | rfl
        | (cases dsc <;> first | (simp at ha; done) | (simp [Cell.okWide, Cell.ok, hu] at hv; done))
  unfold aggOf at ha
  unfold Value.okWide at hv
  cases hu : P.underlying T with
  | none => rw [hu] at ha; cases ha
  | some dsc =>
    rw [hu] at ha hv
    cases dsc <;> first
      | (simp at ha; done)
      | (obtain ⟨cs, h1, _⟩ := hv; exact ⟨cs.toList, by simpa using h1⟩)

def Args (P : Program) (W : World) : List TypeId → List Value → Prop
  | [], [] => True
  | t :: ts, v :: vs => Arg P W t v ∧ Args P W ts vs
  | _, _ => False

theorem args_of {H : Type} {enc : TypeId × Value → H} {P : Program} {W : World} {base : Nat} : ∀ {ts : List TypeId} {vs : List Value} {ds : List (DataW H)} {ps : List MemPlace},
    (∀ (j : Nat) t v, ts[j]? = some t → vs[j]? = some v → Value.okWide P W .any base t v) → DataW.TrodAll enc P W 0 (fun _ => true) true ts vs ds ps → Args P W ts vs
  | [], [], _, _, _, _ => trivial
  | t :: ts, v :: vs, d :: ds, ps, hok, ⟨p, q, h1, h2, _⟩ => ⟨arg_of (hok 0 t v rfl rfl) h1, args_of (fun j t' v' ht hv => hok (j + 1) t' v' (by simpa using ht) (by simpa using hv)) h2⟩
  | [], _ :: _, _, _, _, h => h.elim
  | _ :: _, [], _, _, _, h => h.elim
  | _ :: _, _ :: _, [], _, _, h => h.elim

theorem args_cons {P : Program} {W : World} {t : TypeId} {ts : List TypeId} {vs : List Value} (h : Args P W (t :: ts) vs) : ∃ v vs', vs = v :: vs' ∧ Arg P W t v ∧ Args P W ts vs' := by
  cases vs with
  | nil => exact h.elim
  | cons v vs => exact ⟨v, vs, rfl, h.1, h.2⟩
theorem args_nil {P : Program} {W : World} {vs : List Value} (h : Args P W [] vs) : vs = [] := by
  cases vs with
  | nil => rfl
  | cons v vs => exact h.elim
theorem args1 {P : Program} {W : World} {t : TypeId} {vs : List Value} (h : Args P W [t] vs) : ∃ a, vs = [a] ∧ Arg P W t a := by
  obtain ⟨a, r, rfl, ha, h⟩ := args_cons h
  rw [args_nil h]; exact ⟨a, rfl, ha⟩
theorem args2 {P : Program} {W : World} {t u : TypeId} {vs : List Value} (h : Args P W [t, u] vs) : ∃ a b, vs = [a, b] ∧ Arg P W t a ∧ Arg P W u b := by
  obtain ⟨a, r, rfl, ha, h⟩ := args_cons h
  obtain ⟨b, rfl, hb⟩ := args1 h
  exact ⟨a, b, rfl, ha, hb⟩
theorem args3 {P : Program} {W : World} {t u x : TypeId} {vs : List Value} (h : Args P W [t, u, x] vs) : ∃ a b c, vs = [a, b, c] ∧ Arg P W t a ∧ Arg P W u b ∧ Arg P W x c := by
  obtain ⟨a, r, rfl, ha, h⟩ := args_cons h
  obtain ⟨b, c, rfl, hb, hc⟩ := args2 h
  exact ⟨a, b, c, rfl, ha, hb, hc⟩

theorem trodAll_stays {H : Type} {enc : TypeId × Value → H} {P : Program} (hl : laidOutB P = true) {W W' : World} (hb : Below W.heap.size W W') : ∀ {ts : List TypeId} {vs : List Value} {ds : List (DataW H)} {ps : List MemPlace},
    (ts.all fun t => P.readableRec t && Nat.blt t P.types.size) = true → (∀ x ∈ ps, x.block < W.heap.size) → DataW.TrodAll enc P W 0 (fun _ => true) true ts vs ds ps → DataW.TrodAll enc P W' 0 (fun b => decide (b < W.heap.size)) true ts vs ds ps
  | [], [], [], _, _, _, h => h
  | t :: ts, v :: vs, d :: ds, ps, hr, hlt, ⟨p, q, h1, h2, h3⟩ => by
    simp only [List.all_cons, Bool.and_eq_true] at hr
    subst h3
    have ht : t < P.types.size := by
      have : t + 1 ≤ P.types.size := by simpa [Nat.blt, Nat.ble_eq] using hr.1.2
      exact this
    exact ⟨p, q, Below.trod hl hr.1.1 ht h1 hb (fun x hx => hlt x (by simp [hx])), trodAll_stays hl hb hr.2 (fun x hx => hlt x (by simp [hx])) h2, rfl⟩
  | [], _ :: _, _, _, _, _, h => h.elim
  | [], [], _ :: _, _, _, _, h => h.elim
  | _ :: _, [], _, _, _, _, h => h.elim
  | _ :: _, _ :: _, [], _, _, _, h => h.elim

/-- **A law's contract**, from its walk in worlds of which X holds. -/
theorem law_contractX (X : World → Prop) {H : Type} {enc : TypeId × Value → H} {P : Program} {f : FuncId} {fn : Func} {s : ChangeSpec} {tb : TypeId} (hl : laidOutB P = true) (hr : (fn.params.toList.all fun t => P.readableRec t && Nat.blt t P.types.size) = true)
    (hb : fn.resultTypes = #[tb]) (hbool : P.underlying tb = some .bool) (hvars : s.vars = [])
    (hspec : ∀ ds : List (DataW H), ds.length = fn.params.size → s.fn H (ds ++ []) = { results := [.lit (.bool true)], args := ds, vars := [] })
    (walk : ∀ (W : World) (vs : List Value), X W → Args P W fn.params.toList vs → Calls P f vs.toArray W (Ret fun v w => v = .bool true ∧ St W [] w))
    (W : World) (hX : X W) (base : Nat) (args : Array Value) (ds gs : List (DataW H)) (before : List MemPlace)
    (hok : ∀ (j : Nat) t v, fn.params[j]? = some t → args[j]? = some v → Value.okWide P W .any base t v)
    (hW : DataW.Whole enc P fn.params.toList s.vars false W args.toList ds gs before) :
    Calls P f args W fun e W' => ∃ v, e = .returned v ∧ s.post enc P fn false true false false W args v W' := by
  have hlt := hW.lt
  have hW' := hW
  obtain ⟨p, q, hA, hV, hpq, _, _⟩ := hW
  have hgs : gs = [] ∧ q = [] := by
    rw [hvars] at hV
    cases gs with
    | nil => exact ⟨rfl, hV⟩
    | cons g gs => exact hV.elim
  obtain ⟨rfl, rfl⟩ := hgs
  have hlen : ds.length = fn.params.size := by
    have : ∀ {ts : List TypeId} {vs : List Value} {ds : List (DataW H)} {ps : List MemPlace}, DataW.TrodAll enc P W 0 (fun _ => true) true ts vs ds ps → ds.length = ts.length := by
      intro ts
      induction ts with
      | nil => intro vs ds ps h; cases vs <;> cases ds <;> first | rfl | exact h.elim
      | cons t ts ih =>
        intro vs ds ps h
        cases vs with
        | nil => exact h.elim
        | cons v vs =>
          cases ds with
          | nil => exact h.elim
          | cons d ds => obtain ⟨_, _, _, h2, _⟩ := h; simp [ih h2]
    simpa using this hA
  have hargs := args_of (fun j t v ht hv => hok j t v (by simpa using ht) (by simpa using hv)) hA
  have hc := walk W args.toList hX hargs
  simp only [Array.toArray_toList] at hc
  refine hc.mono fun e W' ⟨v, he, hv, hS⟩ => ⟨v, he, ?_⟩
  subst hv
  have hsp := hspec ds hlen
  refine ⟨ds, [], before, [], p, [], hW', ?_, ?_, ?_, hS.below.frame _, fun h => by cases h⟩
  · rw [hsp, hb]
    exact trodAll_mk1 (shut_bool hbool true)
  · rw [hsp]
    have : before = p := by simpa using hpq
    subst this
    exact trodAll_stays hl hS.below hr (fun x hx => hlt x hx) hA
  · rw [hsp, hvars]
    exact rfl

/-- **A law's contract**, from its walk: it answers true; its arguments read as they did. -/
theorem law_contract {H : Type} {enc : TypeId × Value → H} {P : Program} {f : FuncId} {fn : Func} {s : ChangeSpec} {tb : TypeId} (hl : laidOutB P = true) (hr : (fn.params.toList.all fun t => P.readableRec t && Nat.blt t P.types.size) = true)
    (hb : fn.resultTypes = #[tb]) (hbool : P.underlying tb = some .bool) (hvars : s.vars = [])
    (hspec : ∀ ds : List (DataW H), ds.length = fn.params.size → s.fn H (ds ++ []) = { results := [.lit (.bool true)], args := ds, vars := [] })
    (walk : ∀ (W : World) (vs : List Value), Args P W fn.params.toList vs → Calls P f vs.toArray W (Ret fun v w => v = .bool true ∧ St W [] w))
    (W : World) (base : Nat) (args : Array Value) (ds gs : List (DataW H)) (before : List MemPlace)
    (hok : ∀ (j : Nat) t v, fn.params[j]? = some t → args[j]? = some v → Value.okWide P W .any base t v)
    (hW : DataW.Whole enc P fn.params.toList s.vars false W args.toList ds gs before) :
    Calls P f args W fun e W' => ∃ v, e = .returned v ∧ s.post enc P fn false true false false W args v W' :=
  law_contractX (fun _ => True) hl hr hb hbool hvars hspec (fun W vs _ h => walk W vs h) W trivial base args ds gs before hok hW

theorem cellsOf_sz {P : Program} {T k : Nat} (h : szOf P T = some k) : P.cellsOf T = k := by
  unfold szOf at h
  unfold Program.cellsOf
  rw [h]; rfl

end Go.Proofs.Ytakejjfmbgbedaa
