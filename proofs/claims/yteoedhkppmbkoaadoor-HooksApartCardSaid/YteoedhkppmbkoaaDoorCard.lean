/- Package-level variables that the text lays; arrays that are read. -/
import Derived.Test.YteoedhkppmbkoaaDoorL18
import Derived.Test.YteoedhkppmbkoaaDoorRows
import Derived.MakeChecks
import Derived.LaidLaws
import Derived.FnData
import Derived.OpenShut
namespace Go.Proofs.YteoedhkppmbkoaaDoor
open Go.RowKit

/-- A row of texts, off what the text lays. -/
theorem texts_of_trod {P : Program} {W : World} {T e : TypeId} {m : Nat} {fuel : Nat} {cs : List Value} {ds : List (DataW Unit)} {p : List MemPlace} (hT : P.underlying T = some (.array m e)) (he : P.underlying e = some .string) (hs : szOf P e = some 1)
    (h : DataW.trod (fun _ => ()) P W 0 (fun _ => true) false fuel T cs = some (.agg ds, p)) (hsz : szOf P T = some m) : ∃ ss : List ByteArray, cs = ss.map Value.string ∧ ds = ss.map (fun s => .lit (.string s.data.toList)) := by
  obtain ⟨xs, k, _, hx, hl, hxl, hget⟩ := DataW.trod_array hT h
  rw [cellsOf_sz hsz] at hl
  simp only [cellsOf_sz hs, Nat.mul_one] at hget
  simp only [Prod.mk.injEq, DataW.agg.injEq] at hx
  obtain ⟨hd, _⟩ := hx
  have one : ∀ i, i < m → ∃ s : ByteArray, cs[i]? = some (.string s) ∧ ds[i]? = some (.lit (.string s.data.toList)) := by
    intro i hi
    have h1 := hget i hi
    have hxi : xs[i]? = some (xs[i]'(by omega)) := List.getElem?_eq_getElem (by omega)
    rw [hxi] at h1
    obtain ⟨s, hs1, hs2, _⟩ := DataW.trod_string he h1
    refine ⟨s, ?_, ?_⟩
    · have : ((cs.drop i).take 1)[0]? = some (.string s) := by rw [hs1]; rfl
      simpa using this
    · rw [hd, List.getElem?_map, hxi]
      simp only [Option.map_some, Option.some.injEq]
      exact congrArg Prod.fst hs2
  have hdl : ds.length = m := by rw [hd, List.length_map, hxl]
  have all : ∀ (m : Nat) (cs : List Value) (ds : List (DataW Unit)), cs.length = m → ds.length = m → (∀ i, i < m → ∃ s : ByteArray, cs[i]? = some (.string s) ∧ ds[i]? = some (.lit (.string s.data.toList))) → ∃ ss : List ByteArray, cs = ss.map Value.string ∧ ds = ss.map (fun s => .lit (.string s.data.toList)) := by
    intro m
    induction m with
    | zero => intro cs ds h1 h2 _; exact ⟨[], by simpa using h1, by simpa using h2⟩
    | succ m ih =>
      intro cs ds h1 h2 hh
      match cs, ds, h1, h2 with
      | c :: cs, d :: ds, h1, h2 =>
        obtain ⟨ss, e1, e2⟩ := ih cs ds (by simpa using h1) (by simpa using h2) (fun i hi => by have := hh (i + 1) (by omega); simpa using this)
        obtain ⟨s, g1, g2⟩ := hh 0 (by omega)
        simp at g1 g2
        exact ⟨s :: ss, by simp [g1, e1], by simp [g2, e2]⟩
  exact all m cs ds hl hdl one

theorem texts_inj {ss rs : List ByteArray} (h : ss.map (fun s => (DataW.lit (.string s.data.toList) : DataW Unit)) = rs.map (fun s => .lit (.string s.data.toList))) : ss = rs := by
  induction ss generalizing rs with
  | nil => cases rs with
    | nil => rfl
    | cons r rs => simp at h
  | cons s ss ih =>
    cases rs with
    | nil => simp at h
    | cons r rs =>
      simp only [List.map_cons, List.cons.injEq, DataW.lit.injEq, Lit.string.injEq] at h
      obtain ⟨h1, h2⟩ := h
      rw [ih h2]
      congr 1
      exact ByteArray.ext (Array.toList_inj.1 h1)

/-- A laid variable of texts, as a block that is read. -/
theorem laid_texts {P : Program} {W : World} {nm : String} {ds : List (DataW Unit)} {G T e m : Nat} (h : laidMet P [(nm, .agg ds)] W) (hg : P.globalNamed nm = some G) (ht : (P.globals[G]?).map (·.type) = some T)
    (hT : P.underlying T = some (.array m e)) (he : P.underlying e = some .string) (hs : szOf P e = some 1) (hsz : szOf P T = some m) (hm : 0 < m) (rs : List ByteArray) (hrs : ds = rs.map (fun s => .lit (.string s.data.toList))) : ∃ t, (pts G (rs.map Value.string) t).rd W := by
  obtain ⟨ps, ⟨g, t, cs, fuel, p, q, h1, h2, h3, h4, _, h5⟩, _, h6⟩ := h
  rw [hg] at h1; injection h1 with h1; subst h1
  rw [ht] at h2; injection h2 with h2; subst h2
  obtain ⟨ss, e1, e2⟩ := texts_of_trod hT he hs h4 hsz
  have e3 : ss = rs := texts_inj (by rw [← e2, hrs])
  subst e3
  obtain ⟨_, _, _, _, hl, _⟩ := DataW.trod_array hT h4
  rw [cellsOf_sz hsz] at hl
  have hsize : cs.size = m := by simpa using hl
  obtain ⟨⟨c, t', hc⟩, _⟩ := h6 G 0 (by
    rw [h5]
    simp only [List.mem_append]
    refine .inl (.inl ?_)
    simp only [MemPlace.row, List.mem_map, List.mem_range]
    exact ⟨0, by omega, rfl⟩)
  have hcc : c = cs := by
    simp only [World.var?, hg, Option.bind_some, hc, Option.some.injEq] at h3
    exact h3
  subst hcc
  refine ⟨t', fun b => b = G, rfl, fun _ h => h, ?_⟩
  rw [hc, ← e1]
end Go.Proofs.YteoedhkppmbkoaaDoor
